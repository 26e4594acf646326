/- THE ABSTRACT MACHINE, 13b3: operations on terms are sound: lengths, pieces, conversions. -/
import Derived.Test.YtdeoahhofhmgfaaAmX2
set_option linter.unusedSimpArgs false
set_option linter.unusedVariables false
namespace Go.AM
open Go.RowKit
section
variable {B : Nat} {ρ : Env} {H : Heap} {w : World} {P : Program}

theorem i64_has {n : Nat} (h : n ≤ maxI) : IntKind.i64.has (n : Int) := by
  unfold maxI at h
  simp only [IntKind.has, IntKind.min, IntKind.max, IntKind.bits, IntKind.signed]
  simp; omega

theorem xLen_sound (h : HR B ρ H w) {t ty : TypeId} {rest : List TypeId} {x v : AV} {p : Option Prop} {y : Value} (hx : Rel ρ x y) (hc : xLen P H t x = some (p, v)) (hp : obOk p) :
    ∃ z, (Builtin.len_ (t :: rest).toArray ty #[y]).run P w = .ok z w ∧ Rel ρ v z := by
  unfold xLen at hc
  simp only [Option.bind_eq_some_iff] at hc
  obtain ⟨u, hu, hc⟩ := hc
  split at hc
  · rename_i s
    cases hc
    simp only [Rel] at hx; obtain ⟨rfl, hl⟩ := hx
    have hsz : (⟨s.toArray⟩ : ByteArray).size = s.length := by simp [ByteArray.size]
    exact ⟨goInt s.length, by simp [Builtin.len_, run_underlying hu, hsz], by simp only [Rel, goInt]; exact ⟨trivial, i64_has hl⟩⟩
  · rename_i e r rows
    cases hc
    simp only [Rel, CTy.Rd] at hx
    obtain ⟨base, cap, rfl, _, h3, _⟩ := hx
    exact ⟨goInt (List.length rows), by simp [Builtin.len_, run_underlying hu], by simp only [Rel, goInt]; exact ⟨trivial, i64_has h3⟩⟩
  · rename_i e i lo len
    cases hc
    simp only [Rel] at hx
    obtain ⟨a, base, c, _, rfl, _, h3, _⟩ := hx
    exact ⟨goInt len, by simp [Builtin.len_, run_underlying hu], by simp only [Rel, goInt]; exact ⟨trivial, i64_has h3⟩⟩
  · rename_i e i
    split at hc
    · rename_i r rows ty' ho
      cases hc
      simp only [Rel] at hx
      obtain ⟨a, base, c, ha, rfl, _, h3, _⟩ := hx
      obtain ⟨h1, h2, _⟩ := h.at' ho ha
      exact ⟨goInt a.len, by simp [Builtin.len_, run_underlying hu], by simp only [Rel, goInt]; rw [h2]; exact ⟨rfl, i64_has h3⟩⟩
    · cases hc
  · rename_i kt et i
    split at hc
    · rename_i ka va kr vr m bs clk ho
      cases hc
      simp only [Rel] at hx
      obtain ⟨a, ha, rfl⟩ := hx
      obtain ⟨h1, h2, h3, arr, h4, h5, hb, h7, _⟩ := h.at' ho ha
      have hl : arr.size = m.length := by rw [h7]; simp
      exact ⟨goInt arr.size, by simp [Builtin.len_, run_underlying hu, run_getObj_map h4], by simp only [Rel, goInt]; rw [hl]; exact ⟨rfl, i64_has hp⟩⟩
    · cases hc
  · cases hc

theorem xBnd_sound {o : Option AV} {l : Option Int} (h : xBnd o = some l) {o' : Option Value} (hr : RelO ρ o o') : (l = none ∧ o' = none) ∨ ∃ k n, l = some n ∧ o' = some (.int k n) := by
  unfold xBnd at h
  split at h
  · cases h; simp only [RelO] at hr; exact .inl ⟨rfl, hr⟩
  · rename_i v
    simp only [Option.map_eq_some_iff] at h
    obtain ⟨⟨k, n⟩, h1, rfl⟩ := h
    obtain ⟨y, rfl, hy⟩ := hr
    obtain ⟨rfl, _⟩ := asX_sound h1 hy
    exact .inr ⟨k, n, rfl, rfl⟩

theorem sliceBound_int {k : IntKind} {n : Int} {m : Nat} {code : BoundsCode} (h0 : 0 ≤ n) (h1 : n ≤ m) : (Instr.sliceBound (.int k n) m code).run P w = .ok n.toNat w := by
  simp [Instr.sliceBound, asIntOf, h0, h1]

theorem sliceBounds_x {isS : Bool} {len c : Nat} {lo hi : Option AV} {l h : Option Int} {lo' hi' : Option Value} (hl : xBnd lo = some l) (hh : xBnd hi = some h) (hlo : RelO ρ lo lo') (hhi : RelO ρ hi hi') (hb : bndP l h len) (hc : len ≤ c) :
    (Instr.sliceBounds isS len c lo' hi' none).run P w = .ok (loT l, hiT len h, c) w ∧ loT l ≤ hiT len h ∧ hiT len h ≤ len := by
  rcases xBnd_sound hl hlo with ⟨rfl, rfl⟩ | ⟨k1, n1, rfl, rfl⟩ <;> rcases xBnd_sound hh hhi with ⟨rfl, rfl⟩ | ⟨k2, n2, rfl, rfl⟩
  · exact ⟨by simp [Instr.sliceBounds, loT, hiT], by simp [loT], by simp [hiT]⟩
  · obtain ⟨b1, b2⟩ := hb
    refine ⟨?_, by simp [loT], by simp only [hiT]; omega⟩
    simp [Instr.sliceBounds, sliceBound_int (P := P) (w := w) b1 (show n2 ≤ (c : Nat) by omega), loT, hiT]
  · obtain ⟨b1, b2⟩ := hb
    refine ⟨?_, by simp only [loT, hiT]; omega, by simp [hiT]⟩
    simp [Instr.sliceBounds, sliceBound_int (P := P) (w := w) b1 b2, loT, hiT]
  · obtain ⟨b1, b2, b3⟩ := hb
    refine ⟨?_, by simp only [loT, hiT]; omega, by simp only [hiT]; omega⟩
    simp [Instr.sliceBounds, sliceBound_int (P := P) (w := w) (show 0 ≤ n2 by omega) (show n2 ≤ (c : Nat) by omega), sliceBound_int (P := P) (w := w) (m := n2.toNat) b1 (show n1 ≤ (n2.toNat : Nat) by omega), loT, hiT]

theorem pieceT_eq {α : Type} (l : List α) (a b : Option Int) : pieceT l a b = (l.take (hiT l.length b)).drop (loT a) := by
  cases a <;> cases b <;> simp [pieceT, hiT, loT]

theorem xSlice_sound (hH : HR B ρ H w) {t : TypeId} {p v : AV} {q : Option Prop} {x : Value} {lo hi mx : Option AV} {lo' hi' mx' : Option Value} (hp : Rel ρ p x) (hlo : RelO ρ lo lo') (hhi : RelO ρ hi hi') (hmx : RelO ρ mx mx')
    (h : xSlice P H t p lo hi mx = some (q, v)) (hq : obOk q) : ∃ y, (Instr.sliceAt t x lo' hi' mx').run P w = .ok y w ∧ Rel ρ v y := by
  unfold xSlice at h
  split at h
  · cases h
  · simp only [RelO] at hmx; subst hmx
    simp only [Option.bind_eq_some_iff] at h
    obtain ⟨u, hu, l, hl, k, hk, h⟩ := h
    split at h
    · simp only [Option.map_eq_some_iff] at h
      obtain ⟨s, hs, h⟩ := h
      cases h
      obtain ⟨rfl, hsl⟩ := asS_sound hs hp
      have hsz : (⟨s.toArray⟩ : ByteArray).size = s.length := by simp [ByteArray.size]
      obtain ⟨g1, g2, g3⟩ := sliceBounds_x (P := P) (w := w) (isS := false) hl hk hlo hhi hq (Nat.le_refl _)
      refine ⟨.string ⟨(pieceT s l k).toArray⟩, ?_, by simp only [Rel]; exact ⟨trivial, by rw [pieceT_eq]; simp; omega⟩⟩
      rw [pieceT_eq]
      simp [Instr.sliceAt, run_underlying hu, Instr.slice, hsz, g1, extract_str]
    · rename_i e
      simp only [Option.bind_eq_some_iff] at h
      obtain ⟨inf, hi0, h⟩ := h
      have hrun : ∀ (base : Option Addr) (len c : Nat), bndP l k len → len ≤ c → (Instr.sliceAt t (.slice base len c) lo' hi' none).run P w =
          .ok (.slice (if c = loT l then base else base.map (·.add (loT l * inf.size))) (hiT len k - loT l) (c - loT l)) w ∧ loT l ≤ hiT len k ∧ hiT len k ≤ len := fun base len c hb hc => by
        obtain ⟨g1, g2, g3⟩ := sliceBounds_x (P := P) (w := w) (isS := true) hl hk hlo hhi hb hc
        exact ⟨by simp [Instr.sliceAt, run_underlying hu, Instr.slice, g1, sizeOf_run hi0], g2, g3⟩
      -- a piece of rows that are somewhere
      have part : ∀ {i lo0 len0 : Nat} {r : RTy} {rows : List r.den} {ty : Option TypeId} {a : At} {base : Option Addr} {c : Nat}, H.get i = some (.seq r rows ty) → ρ.ats[i]? = some a → inf.size = r.size → len0 ≤ c → len0 ≤ maxI → lo0 + len0 ≤ a.len →
          ((base = none ∧ c = 0) ∨ (∃ a, base = some a ∧ a.spot = none ∧ c = 0) ∨ (a.nb = false ∧ base = some ⟨a.b, a.sh + lo0 * a.es, none⟩ ∧ a.sh + lo0 * a.es + c * a.es ≤ a.n)) → bndP l k len0 →
          ∃ y, (Instr.sliceAt t (.slice base len0 c) lo' hi' none).run P w = .ok y w ∧ Rel ρ (.ss i (lo0 + loT l) (hiT len0 k - loT l)) y := by
        intro i lo0 len0 r rows ty a base c ho ha hsz k1 k2 k3 k4 hb
        obtain ⟨g1, g2, g3⟩ := hrun base len0 c hb k1
        refine ⟨_, g1, ?_⟩
        simp only [Rel]
        refine ⟨a, _, _, ha, rfl, by omega, by omega, by omega, ?_⟩
        have h1 := (hH.at' ho ha).1
        rcases k4 with ⟨rfl, rfl⟩ | ⟨b, rfl, hb1, rfl⟩ | ⟨hnb, rfl, hn⟩
        · exact .inl ⟨by split <;> rfl, by omega⟩
        · refine .inr (.inl ⟨b, ?_, hb1, by omega⟩)
          rw [if_pos (by omega)]
        · by_cases hcl : c = loT l
          · rw [if_pos hcl]
            exact .inr (.inl ⟨_, rfl, rfl, by omega⟩)
          · rw [if_neg hcl]
            refine .inr (.inr ⟨hnb, ?_, ?_⟩)
            · simp only [Option.map_some, addr_add, hsz, h1, Nat.add_mul, Nat.add_assoc]
            · rw [Nat.add_mul]
              have : loT l * a.es + (c - loT l) * a.es = c * a.es := by rw [← Nat.add_mul]; congr 1; omega
              omega
      split at h
      · rename_i i
        split at h
        · rename_i r rows ty ho
          cases hb : Nat.beq inf.size r.size with
          | false => rw [hb] at h; cases h
          | true =>
            rw [hb, cond_true] at h
            have hsz := Nat.eq_of_beq_eq_true hb
            simp only [Option.some.injEq, Prod.mk.injEq] at h
            obtain ⟨rfl, h⟩ := h
            simp only [Rel] at hp
            obtain ⟨a, base, c, ha, rfl, k1, k2, k3⟩ := hp
            obtain ⟨h1, h2, h3⟩ := hH.at' ho ha
            have hq' : bndP l k a.len := by rw [← h2]; exact hq
            split at h
            · rename_i hl0 hk0
              subst h
              refine ⟨.slice base a.len c, ?_, by simp only [Rel]; exact ⟨a, base, c, ha, rfl, k1, k2, k3⟩⟩
              obtain ⟨g1, _⟩ := hrun base a.len c hq' k1
              rw [g1]
              simp only [loT, hiT, Nat.sub_zero, Nat.zero_mul]
              congr 2
              split
              · rfl
              · cases base <;> simp [Addr.add]
            · subst h
              have := part (lo0 := 0) ho ha hsz k1 k2 (by omega) (by simpa using k3) hq'
              rw [Nat.zero_add] at this
              rw [h2]
              exact this
        · cases h
      · rename_i i lo0 len0
        split at h
        · rename_i r rows ty ho
          cases hb : Nat.beq inf.size r.size with
          | false => rw [hb] at h; cases h
          | true =>
            rw [hb, cond_true] at h
            have hsz := Nat.eq_of_beq_eq_true hb
            simp only [Option.some.injEq, Prod.mk.injEq] at h
            obtain ⟨rfl, rfl⟩ := h
            simp only [Rel] at hp
            obtain ⟨a, base, c, ha, rfl, k1, k2, kk, k3⟩ := hp
            exact part ho ha hsz k1 k2 kk k3 hq
        · cases h
      · rename_i r rows
        cases hb : Nat.beq inf.size r.size with
        | false => rw [hb] at h; cases h
        | true =>
          rw [hb, cond_true] at h
          have hsz := Nat.eq_of_beq_eq_true hb
          simp only [Option.some.injEq, Prod.mk.injEq] at h
          obtain ⟨rfl, rfl⟩ := h
          simp only [Rel, CTy.Rd] at hp ⊢
          obtain ⟨base, cap, rfl, k1, k2, k3, k4, k5⟩ := hp
          have hq' : bndP l k (List.length (α := r.den) rows) := hq
          obtain ⟨g1, g2, g3⟩ := hrun base _ cap hq' k1
          have hlen : List.length (α := r.den) (pieceT rows l k) = hiT (List.length (α := r.den) rows) k - loT l := by rw [pieceT_eq]; simp; omega
          refine ⟨_, g1, _, _, by rw [hlen], by omega, by omega, ?_, ?_, ?_⟩
          · intro hbn
            by_cases hcl : cap = loT l
            · omega
            · rw [if_neg hcl] at hbn
              simp only [Option.map_eq_none_iff] at hbn
              have := k3 hbn; omega
          · intro a hba
            split at hba
            · exact k4 a hba
            · simp only [Option.map_eq_some_iff] at hba
              obtain ⟨a', ha', rfl⟩ := hba
              have := k4 a' ha'
              unfold Addr.add; split
              · exact this
              · rfl
          · intro j row hj
            have hj' : j < hiT (List.length (α := r.den) rows) k - loT l := by rw [← hlen]; exact (List.getElem?_eq_some_iff.1 hj).1
            have hjr : (show List r.den from rows)[loT l + j]? = some row := by
              have : (show List r.den from pieceT rows l k)[j]? = some row := hj
              rw [pieceT_eq, List.getElem?_drop, List.getElem?_take_of_lt (by omega)] at this
              exact this
            obtain ⟨b, off, arr, ys, rfl, m1, m2, m3⟩ := k5 _ row hjr
            rw [if_neg (by omega)]
            refine ⟨b, off + loT l * inf.size, arr, ys, by simp [addr_add], m1, fun i y hy => ?_, m3⟩
            have := m2 i y hy
            rw [← this]; congr 1
            rw [Nat.add_mul, hsz]; omega
      · cases h
    · cases h
end
end Go.AM
