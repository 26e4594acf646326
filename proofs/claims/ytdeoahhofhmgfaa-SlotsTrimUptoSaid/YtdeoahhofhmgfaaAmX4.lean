/- THE ABSTRACT MACHINE, 13b4: operations on terms are sound: stores, what grows, what is made. -/
import Derived.Test.YtdeoahhofhmgfaaAmX3
set_option linter.unusedSimpArgs false
set_option linter.unusedVariables false
namespace Go.AM
open Go.RowKit
section
variable {B : Nat} {ρ : Env} {H : Heap} {w : World} {P : Program}

theorem castRows_rfl {r : RTy} (h : r = r) (rows : List r.den) : castRows h rows = rows := rfl

theorem CTy.dec_sound : ∀ {c : CTy} {v : AV} {d : c.den}, c.dec v = some d → ∀ {x : Value}, Rel ρ v x → CTy.Rd ρ.fz c d x := by
  intro c v d h x hr
  cases c with
  | int k =>
    simp only [CTy.dec] at h
    split at h
    · rename_i k' n hx
      cases hb : decide (k' = k) with
      | false => rw [hb] at h; cases h
      | true =>
        rw [hb] at h; cases h
        obtain rfl := of_decide_eq_true hb
        simp only [CTy.Rd]
        exact asX_sound hx hr
    · cases h
  | boo => simp only [CTy.dec] at h; simp only [CTy.Rd]; exact asB_sound h hr
  | txt => simp only [CTy.dec] at h; simp only [CTy.Rd]; exact asS_sound h hr
  | sl r =>
    simp only [CTy.dec] at h
    split at h
    · cases h
      simp only [Rel] at hr; subst hr
      simp only [CTy.Rd]
      exact ⟨none, 0, rfl, Nat.le_refl _, Nat.zero_le _, fun _ => rfl, fun a ha => (by cases ha), fun k row hk => by cases hk⟩
    · rename_i r' rows
      split at h
      · rename_i hs
        cases h
        have e := RTy.same_eq hs
        subst e
        simp only [Rel] at hr
        exact hr
      · cases h
    · cases h

theorem RTy.dec_one {c : CTy} {vs : List AV} {d : (RTy.one c).den} (h : (RTy.one c).dec vs = some d) : ∃ v, vs = [v] ∧ c.dec v = some d := by
  cases vs with
  | nil =>
    have e : (RTy.one c).dec [] = none := rfl
    exact absurd (e.symm.trans h).symm (Option.some_ne_none _)
  | cons v vs =>
    cases vs with
    | nil => exact ⟨v, rfl, h⟩
    | cons v' vs' =>
      have e : (RTy.one c).dec (v :: v' :: vs') = none := rfl
      exact absurd (e.symm.trans h).symm (Option.some_ne_none _)

theorem RTy.dec_cons_nil (c : CTy) (r : RTy) : (RTy.cons c r).dec [] = none := rfl
theorem RTy.dec_cons_cons (c : CTy) (r : RTy) (v : AV) (vs : List AV) : (RTy.cons c r).dec (v :: vs) = match c.dec v with
    | some x => match RTy.dec r vs with
      | some y => some (x, y)
      | none => none
    | none => none := rfl

theorem RTy.dec_cons {c : CTy} {r : RTy} {vs : List AV} {d : (RTy.cons c r).den} (h : (RTy.cons c r).dec vs = some d) : ∃ v vs' a b, vs = v :: vs' ∧ c.dec v = some a ∧ r.dec vs' = some b ∧ d = (a, b) := by
  match vs, h with
  | [], h => rw [RTy.dec_cons_nil] at h; exact absurd h.symm (Option.some_ne_none _)
  | v :: vs, h =>
    rw [RTy.dec_cons_cons] at h
    cases ha : c.dec v with
    | none => rw [ha] at h; exact absurd h.symm (Option.some_ne_none _)
    | some a =>
      cases hb : r.dec vs with
      | none => rw [ha, hb] at h; exact absurd h.symm (Option.some_ne_none _)
      | some b => rw [ha, hb] at h; exact ⟨v, vs, a, b, rfl, ha, hb, (Option.some.inj h).symm⟩

theorem RTy.dec_sound (r : RTy) : ∀ {vs : List AV} {d : r.den}, r.dec vs = some d → ∀ {xs : List Value}, RelL ρ vs xs → RTy.Rd ρ.fz r d xs := by
  refine RTy.rec (motive_1 := fun _ => True) (motive_2 := fun r => ∀ {vs : List AV} {d : r.den}, r.dec vs = some d → ∀ {xs : List Value}, RelL ρ vs xs → RTy.Rd ρ.fz r d xs) (fun _ => trivial) trivial trivial (fun _ _ => trivial) ?_ ?_ r
  · intro c _ vs d h xs hr
    obtain ⟨v, rfl, h⟩ := RTy.dec_one h
    simp only [RelL] at hr
    obtain ⟨y, ys, rfl, h1, h2⟩ := hr
    subst h2
    simp only [RTy.Rd]
    exact ⟨y, rfl, CTy.dec_sound h h1⟩
  · intro c r _ ih vs d h xs hr
    obtain ⟨v, vs', a, b, rfl, h1, h2, rfl⟩ := RTy.dec_cons h
    simp only [RelL] at hr
    obtain ⟨y, ys, rfl, k1, k2⟩ := hr
    simp only [RTy.Rd]
    exact ⟨y, ys, rfl, CTy.dec_sound h1 k1, ih h2 k2⟩

theorem RTy.dec_length (r : RTy) : ∀ {vs : List AV} {d : r.den}, r.dec vs = some d → vs.length = r.size := by
  refine RTy.rec (motive_1 := fun _ => True) (motive_2 := fun r => ∀ {vs : List AV} {d : r.den}, r.dec vs = some d → vs.length = r.size) (fun _ => trivial) trivial trivial (fun _ _ => trivial) ?_ ?_ r
  · intro c _ vs d h
    obtain ⟨v, rfl, h⟩ := RTy.dec_one h
    rfl
  · intro c r _ ih vs d h
    obtain ⟨v, vs', a, b, rfl, h1, h2, rfl⟩ := RTy.dec_cons h
    simp [RTy.size, ih h2]

theorem RTy.decs_sound {r : RTy} (n : Nat) : ∀ {cs : List AV} {rows : List r.den}, r.decs n cs = some rows → rows.length = n ∧ cs.length = n * r.size ∧ ∀ {ρ : Env} {xs : List Value}, RelL ρ cs xs →
    ∀ (k : Nat) (row : r.den), rows[k]? = some row → RTy.Rd ρ.fz r row ((xs.drop (k * r.size)).take r.size) := by
  induction n with
  | zero =>
    intro cs rows h
    cases cs with
    | nil =>
      have e : r.decs 0 [] = some [] := rfl
      (rw [e] at h); obtain rfl := (Option.some.inj h); exact ⟨rfl, by simp, fun _ k row hk => by simp at hk⟩
    | cons a l =>
      have e : r.decs 0 (a :: l) = none := rfl
      exact absurd (e.symm.trans h).symm (Option.some_ne_none _)
  | succ n ih =>
    intro cs rows h
    unfold RTy.decs at h
    split at h
    · rename_i a ha
      split at h
      · rename_i b hb
        cases h
        obtain ⟨h1, h2, h3⟩ := ih hb
        have hlen := RTy.dec_length r ha
        have hsz : r.size ≤ cs.length := by rw [List.length_take] at hlen; omega
        refine ⟨by simp [h1], ?_, fun {ρ xs} hr k row hk => ?_⟩
        · rw [List.length_drop] at h2; rw [Nat.add_mul]; omega
        · cases k with
          | zero =>
            simp at hk; subst hk
            simp only [Nat.zero_mul, List.drop_zero]
            exact RTy.dec_sound r ha (hr.take r.size)
          | succ k =>
            simp at hk
            have := h3 (hr.drop r.size) k row hk
            rw [List.drop_drop] at this
            rw [show (k + 1) * r.size = r.size + k * r.size by rw [Nat.add_mul]; omega]
            exact this
      · cases h
    · cases h

/-- Rows, as a run of cells. -/
structure Cells (ρ : Env) (r : RTy) (rows : List r.den) (cs : List Value) : Prop where
  len : cs.length = rows.length * r.size
  row : ∀ (k : Nat) (row : r.den), rows[k]? = some row → RTy.Rd ρ.fz r row ((cs.drop (k * r.size)).take r.size)

theorem Cells.get {r : RTy} {rows : List r.den} {cs : List Value} (h : Cells ρ r rows cs) {k : Nat} {row : r.den} (hk : rows[k]? = some row) :
    ∃ ys, (∀ (j : Nat) (y : Value), ys[j]? = some y → cs[k * r.size + j]? = some y) ∧ RTy.Rd ρ.fz r row ys := by
  refine ⟨_, fun j y hy => ?_, h.row k row hk⟩
  have hj : j < r.size := by have := (List.getElem?_eq_some_iff.1 hy).1; simp at this; omega
  rw [List.getElem?_take_of_lt hj, List.getElem?_drop] at hy
  exact hy

theorem Cells.append {r : RTy} {a b : List r.den} {xs ys : List Value} (h : Cells ρ r a xs) (k : Cells ρ r b ys) : Cells ρ r (a ++ b) (xs ++ ys) := by
  refine ⟨by simp [h.len, k.len, Nat.add_mul], fun i row hi => ?_⟩
  by_cases hlt : i < a.length
  · rw [List.getElem?_append_left hlt] at hi
    have := h.row i row hi
    have hmul : i * r.size + r.size ≤ a.length * r.size := by
      have : (i + 1) * r.size ≤ a.length * r.size := Nat.mul_le_mul_right _ hlt
      rw [Nat.add_mul] at this; omega
    rw [List.drop_append_of_le_length (by rw [h.len]; omega), List.take_append_of_le_length (by simp [h.len]; omega)]
    exact this
  · rw [List.getElem?_append_right (by omega)] at hi
    have := k.row _ row hi
    have hmul : i * r.size = a.length * r.size + (i - a.length) * r.size := by rw [← Nat.add_mul]; congr 1; omega
    rw [hmul, ← h.len, ← List.drop_drop, List.drop_left]
    exact this

/-- What a slice of rows has, cell by cell. -/
structure SrcOk (ρ : Env) (P : Program) (w : World) (r : RTy) (rows : List r.den) (es : Nat) (y : Value) : Prop where
  lenOf : (Builtin.lenOf y).run P w = .ok rows.length w
  cells : ∃ cs : List Value, Cells ρ r rows cs ∧ (Builtin.firstCells es rows.length y).run P w = .ok cs.toArray w
  again : ∀ w' : World, w'.heap = w.heap → ∀ cs, (Builtin.firstCells es rows.length y).run P w = .ok cs w → (Builtin.firstCells es rows.length y).run P w' = .ok cs w'

theorem loadCells_again {w' : World} (hw : w'.heap = w.heap) {a : Addr} {n : Nat} {cs : List Value} (hs : a.spot = none) (hc : cs.length = n) (h : ∀ (j : Nat) (x : Value), cs[j]? = some x → w.cell? ⟨a.block, a.off + j, none⟩ = some x) : (loadCells a n).run P w' = .ok cs.toArray w' := by
  obtain ⟨b, o, s⟩ := a
  simp only at hs; subst hs
  refine run_loadCells_at hc fun j x hx => ?_
  have := h j x hx
  simp only [World.cell?] at this ⊢
  rw [hw]; exact this

/-- Rows that lie in a block, one behind the other. -/
theorem rows_cells {r : RTy} {rows : List r.den} {b off : Nat} (h : ∀ (k : Nat) (row : r.den), rows[k]? = some row → ∃ ys, (∀ (j : Nat) (y : Value), ys[j]? = some y → w.cell? ⟨b, off + k * r.size + j, none⟩ = some y) ∧ RTy.Rd ρ.fz r row ys) :
    ∃ cs : List Value, Cells ρ r rows cs ∧ ∀ (j : Nat) (x : Value), cs[j]? = some x → w.cell? ⟨b, off + j, none⟩ = some x := by
  have hpos := r.size_pos
  let cs : List Value := (List.range (rows.length * r.size)).map fun j => (w.cell? ⟨b, off + j, none⟩).getD undef
  have hcell : ∀ k j, k < rows.length → j < r.size → ∃ x, w.cell? ⟨b, off + (k * r.size + j), none⟩ = some x ∧ ∀ row ys, rows[k]? = some row → (∀ (j : Nat) (y : Value), ys[j]? = some y → w.cell? ⟨b, off + k * r.size + j, none⟩ = some y) → RTy.Rd ρ.fz r row ys → ys[j]? = some x := fun k j hk hj => by
    obtain ⟨ys, h1, h2⟩ := h k _ (List.getElem?_eq_getElem hk)
    have hl := h2.length
    have hy : ys[j]? = some (ys[j]'(by omega)) := List.getElem?_eq_getElem _
    refine ⟨_, by rw [← Nat.add_assoc]; exact h1 j _ hy, fun row ys' hr h3 h4 => ?_⟩
    have hl' := h4.length
    have hy' : ys'[j]? = some (ys'[j]'(by omega)) := List.getElem?_eq_getElem _
    have e1 := h1 j _ hy
    have e2 := h3 j _ hy'
    rw [e1] at e2
    rw [hy', Option.some.inj e2]
  have hsplit : ∀ j, j < rows.length * r.size → j / r.size < rows.length ∧ j % r.size < r.size ∧ j = j / r.size * r.size + j % r.size := fun j hj =>
    ⟨(Nat.div_lt_iff_lt_mul hpos).2 hj, Nat.mod_lt _ hpos, by rw [Nat.mul_comm]; exact (Nat.div_add_mod j r.size).symm⟩
  refine ⟨cs, ⟨by simp [cs], fun k row hk => ?_⟩, fun j x hx => ?_⟩
  · have hkl : k < rows.length := (List.getElem?_eq_some_iff.1 hk).1
    obtain ⟨ys, h1, h2⟩ := h k row hk
    have hl := h2.length
    have : (cs.drop (k * r.size)).take r.size = ys := by
      apply List.ext_getElem?
      intro j
      have hmul : k * r.size + r.size ≤ rows.length * r.size := by
        have : (k + 1) * r.size ≤ rows.length * r.size := Nat.mul_le_mul_right _ hkl
        rw [Nat.add_mul] at this; omega
      by_cases hj : j < r.size
      · rw [List.getElem?_take_of_lt hj, List.getElem?_drop]
        have hy : ys[j]? = some (ys[j]'(by omega)) := List.getElem?_eq_getElem _
        have := h1 j _ hy
        rw [Nat.add_assoc] at this
        rw [hy]
        simp only [cs, List.getElem?_map, List.getElem?_range (show k * r.size + j < rows.length * r.size by omega), Option.map_some, this, Option.getD_some]
      · rw [List.getElem?_eq_none (by simp; omega), List.getElem?_eq_none (by omega)]
    rw [this]; exact h2
  · have hj : j < rows.length * r.size := by have := (List.getElem?_eq_some_iff.1 hx).1; simpa [cs] using this
    obtain ⟨s1, s2, s3⟩ := hsplit j hj
    obtain ⟨x', hx', _⟩ := hcell _ _ s1 s2
    rw [← s3] at hx'
    simp only [cs, List.getElem?_map, List.getElem?_range hj, Option.map_some, hx', Option.getD_some, Option.some.injEq] at hx
    rw [← hx]; exact hx'

theorem SrcOk.of_cells {r : RTy} {rows : List r.den} {base : Option Addr} {c : Nat} (h : rows.length = 0 ∨ ∃ b off, base = some ⟨b, off, none⟩ ∧ ∀ (k : Nat) (row : r.den), rows[k]? = some row → ∃ ys, (∀ (j : Nat) (y : Value), ys[j]? = some y → w.cell? ⟨b, off + k * r.size + j, none⟩ = some y) ∧ RTy.Rd ρ.fz r row ys) :
    SrcOk ρ P w r rows r.size (.slice base rows.length c) := by
  rcases h with h | ⟨b, off, rfl, h⟩
  · have hr : rows = [] := List.length_eq_zero_iff.1 h
    subst hr
    have hf : ∀ w : World, (Builtin.firstCells r.size 0 (.slice base 0 c)).run P w = .ok #[] w := fun w => by
      cases base with
      | none => simp [Builtin.firstCells]
      | some a => simp [Builtin.firstCells, loadCells, loadCellsFrom]
    refine ⟨by simp [Builtin.lenOf], ⟨[], ⟨by simp, fun k row hk => by simp at hk⟩, hf w⟩, fun w' hw cs hcs => ?_⟩
    have := hf w
    simp only [List.length_nil] at hcs
    rw [this] at hcs; cases hcs; exact hf w'
  · obtain ⟨cs, h1, h2⟩ := rows_cells h
    have hrun : ∀ w' : World, w'.heap = w.heap → (Builtin.firstCells r.size rows.length (.slice (some ⟨b, off, none⟩) rows.length c)).run P w' = .ok cs.toArray w' := fun w' hw => by
      simp only [Builtin.firstCells]
      exact loadCells_again (w := w) hw rfl h1.len h2
    exact ⟨by simp [Builtin.lenOf], ⟨cs, h1, hrun w rfl⟩, fun w' hw cs' hcs => by rw [hrun w rfl] at hcs; cases hcs; exact hrun w' hw⟩

/-- The rows of a sequence's slice. -/
theorem seq_src (h : HR B ρ H w) {i lo len : Nat} {r : RTy} {rows : List r.den} {ty : Option TypeId} {a : At} {base : Option Addr} {c : Nat} (ho : H.get i = some (.seq r rows ty)) (ha : ρ.ats[i]? = some a) (hlc : len ≤ c) (hll : lo + len ≤ a.len)
    (hb : (base = none ∧ c = 0) ∨ (∃ a, base = some a ∧ a.spot = none ∧ c = 0) ∨ (a.nb = false ∧ base = some ⟨a.b, a.sh + lo * a.es, none⟩ ∧ a.sh + lo * a.es + c * a.es ≤ a.n)) :
    ((rows.drop lo).take len).length = len ∧ SrcOk ρ P w r ((rows.drop lo).take len) r.size (.slice base len c) := by
  obtain ⟨h1, h2, h3⟩ := h.at' ho ha
  have hl : ((rows.drop lo).take len).length = len := by simp; omega
  refine ⟨hl, ?_⟩
  have := SrcOk.of_cells (ρ := ρ) (P := P) (w := w) (rows := (rows.drop lo).take len) (base := base) (c := c) ?_
  · rw [hl] at this; exact this
  · rcases hb with ⟨rfl, rfl⟩ | ⟨_, rfl, _, rfl⟩ | ⟨hnb, rfl, hn⟩
    · exact .inl (by omega)
    · exact .inl (by omega)
    · refine .inr ⟨a.b, a.sh + lo * a.es, rfl, fun k row hk => ?_⟩
      have hkl : k < len := by rw [← hl]; exact (List.getElem?_eq_some_iff.1 hk).1
      rw [List.getElem?_take_of_lt hkl, List.getElem?_drop] at hk
      rcases h3 with ⟨hnb', _⟩ | ⟨_, arr, ty0, fz, h4, h5, h6, h7⟩
      · rw [hnb] at hnb'; cases hnb'
      · obtain ⟨ys, g1, g2⟩ := h6 _ row hk
        refine ⟨ys, fun j y hy => ?_, g2⟩
        have := g1 j y hy
        rw [h1]
        have e : (lo + k) * r.size = lo * r.size + k * r.size := Nat.add_mul ..
        rw [show a.sh + lo * r.size + k * r.size + j = a.sh + (lo + k) * r.size + j by rw [e]; omega]
        simp [World.cell?, h4, this]

theorem srcRows_sound (h : HR B ρ H w) {r : RTy} {es : Nat} {x : AV} {rows : List r.den} (hes : es = r.size) (hc : srcRows H r es x = some rows) {y : Value} (hx : Rel ρ x y) : ∃ base c, y = .slice base rows.length c ∧ SrcOk ρ P w r rows es y := by
  subst hes
  unfold srcRows at hc
  split at hc
  · cases hc
    simp only [Rel] at hx; subst hx
    exact ⟨none, 0, rfl, SrcOk.of_cells (rows := []) (.inl rfl)⟩
  · cases hc
    simp only [Rel] at hx; obtain ⟨a, c, rfl⟩ := hx
    exact ⟨some a, c, rfl, SrcOk.of_cells (rows := []) (.inl rfl)⟩
  · rename_i r' rows'
    split at hc
    · rename_i hs
      have e := RTy.same_eq hs
      subst e
      rw [castRows_rfl] at hc
      cases hc
      simp only [Rel, CTy.Rd] at hx
      obtain ⟨base, cap, rfl, k1, k2, k3, k4, k5⟩ := hx
      refine ⟨base, cap, rfl, SrcOk.of_cells ?_⟩
      by_cases hz : rows'.length = 0
      · exact .inl hz
      · obtain ⟨b, off, _, _, rfl, _⟩ := k5 0 _ (List.getElem?_eq_getElem (by omega))
        refine .inr ⟨b, off, rfl, fun k row hk => ?_⟩
        obtain ⟨b', off', arr, ys, he, g1, g2, g3⟩ := k5 k row hk
        cases he
        exact ⟨ys, fun j y hy => fz_cell h g1 (g2 j y hy), g3⟩
    · cases hc
  · rename_i i
    simp only [Option.bind_eq_some_iff] at hc
    obtain ⟨o, ho, hc⟩ := hc
    unfold rowsAs at hc
    split at hc
    · rename_i r' rows' ty
      split at hc
      · rename_i hs
        have e := RTy.same_eq hs
        subst e
        rw [castRows_rfl] at hc
        cases hc
        simp only [Rel] at hx
        obtain ⟨a, base, c, ha, rfl, k1, k2, k3⟩ := hx
        obtain ⟨h1, h2, _⟩ := h.at' ho ha
        obtain ⟨g1, g2⟩ := seq_src (P := P) h ho ha k1 (lo := 0) (by omega) (by simpa using k3)
        have e : (rows'.drop 0).take a.len = rows' := by rw [List.drop_zero, ← h2, List.take_length]
        rw [e] at g2
        rw [← h2] at g2 ⊢
        exact ⟨base, c, rfl, g2⟩
      · cases hc
    · cases hc
  · rename_i i lo len
    simp only [Option.map_eq_some_iff, Option.bind_eq_some_iff] at hc
    obtain ⟨rows', ⟨o, ho, hc⟩, rfl⟩ := hc
    unfold rowsAs at hc
    split at hc
    · rename_i r' rows'' ty
      split at hc
      · rename_i hs
        have e := RTy.same_eq hs
        subst e
        rw [castRows_rfl] at hc
        cases hc
        simp only [Rel] at hx
        obtain ⟨a, base, c, ha, rfl, k1, k2, kk, k3⟩ := hx
        obtain ⟨g1, g2⟩ := seq_src (P := P) h ho ha k1 kk k3
        rw [g1]
        exact ⟨base, c, rfl, g2⟩
      · cases hc
    · cases hc
  · rename_i i off len cap ex
    simp only [Option.bind_eq_some_iff] at hc
    obtain ⟨cs, hl, hd⟩ := hc
    obtain ⟨d1, d2, d3⟩ := RTy.decs_sound len hd
    simp only [Rel] at hx
    obtain ⟨a, c, ha, rfl, _⟩ := hx
    obtain ⟨g1, xs, g2, g3, g4⟩ := ldN_sound h ha hl
    rw [← d1]
    refine ⟨_, c, rfl, ?_⟩
    refine SrcOk.of_cells (.inr ⟨a.b, a.sh + off, rfl, fun k row hk => ?_⟩)
    have hkl : k < len := by rw [← d1]; exact (List.getElem?_eq_some_iff.1 hk).1
    refine ⟨_, fun j y hy => ?_, d3 g3 k row hk⟩
    have hj : j < r.size := by have := (List.getElem?_eq_some_iff.1 hy).1; simp at this; omega
    rw [List.getElem?_take_of_lt hj, List.getElem?_drop] at hy
    rw [Nat.add_assoc]
    exact g4 _ y hy
  · cases hc
end
end Go.AM
