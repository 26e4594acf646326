/- A part of the proof that 'reevelaw15.SlotsTrim' returns true for every input. No condition. -/
import Derived.Test.YtdeoahhofhmgfaaStVc
import Derived.Test.YtdeoahhofhmgfaaAmE
namespace Go.Proofs.Ytdeoahhofhmgfaa.SlotsTrim
open Go.AM
noncomputable section
theorem w64b {n : Int} (h1 : -9223372036854775808 ≤ n) (h2 : n ≤ 9223372036854775807) : IntKind.i64.wrap n = n := by
  simp only [IntKind.wrap, IntKind.bits, IntKind.signed, Bool.true_and, decide_eq_true_eq, Nat.reduceSub, Int.reducePow, ge_iff_le]
  split <;> omega
theorem wu {n : Int} (h1 : 0 ≤ n) (h2 : n ≤ 18446744073709551615) : IntKind.u64.wrap n = n := by
  simp only [IntKind.wrap, IntKind.bits, IntKind.signed, Bool.false_and, Int.reducePow]
  split
  · contradiction
  · omega
theorem wrap_add {a b : Int} : IntKind.i64.wrap (IntKind.i64.wrap a + b) = IntKind.i64.wrap (a + b) := by
  simp only [IntKind.wrap, IntKind.bits, IntKind.signed, Bool.true_and, decide_eq_true_eq, Nat.reduceSub, Int.reducePow, ge_iff_le]
  split <;> split <;> split <;> omega
def tot (l : List (List UInt8)) : Nat := (l.map List.length).sum
theorem tot_take {l : List (List UInt8)} {i : Nat} (h : i < l.length) : tot (l.take (i + 1)) = tot (l.take i) + (rowS l i).length := by
  have e : rowS l i = l[i] := by
    show List.getD (α := List UInt8) l i [] = _
    rw [List.getD_eq_getElem?_getD, List.getElem?_eq_getElem h]; rfl
  rw [e, List.take_succ_eq_append_getElem h]
  unfold tot
  rw [List.map_append, List.sum_append]
  simp only [List.map_cons, List.map_nil, List.sum_cons, List.sum_nil, Nat.add_zero]
theorem tot_le {l : List (List UInt8)} (i : Nat) : tot (l.take i) ≤ tot l := by
  have h := List.take_append_drop i l
  have : tot l = tot (l.take i) + tot (l.drop i) := by
    conv => lhs; rw [← h]
    unfold tot
    rw [List.map_append, List.sum_append]
  omega
theorem tot_mem {l : List (List UInt8)} {i : Nat} (h : i < l.length) : (rowS l i).length ≤ tot l := by
  have := tot_take h
  have := tot_le (l := l) (i + 1)
  omega
theorem tot_each {b : Nat} : ∀ {l : List (List UInt8)}, (∀ r ∈ l, r.length ≤ b) → tot l ≤ l.length * b
  | [], _ => Nat.zero_le _
  | a :: l, h => by
    have h1 := tot_each (l := l) fun r hr => h r (List.mem_cons_of_mem _ hr)
    have h2 := h a (List.mem_cons_self ..)
    unfold tot at h1 ⊢
    simp only [List.map_cons, List.sum_cons, List.length_cons, Nat.add_mul, Nat.one_mul]
    omega
theorem nodup_len : ∀ {l l' : List Nat}, l.Nodup → (∀ a ∈ l, a ∈ l') → l.length ≤ l'.length
  | [], _, _, _ => Nat.zero_le _
  | a :: l, l', hn, hs => by
    rw [List.nodup_cons] at hn
    have ha : a ∈ l' := hs a (List.mem_cons_self ..)
    have ih := nodup_len (l' := l'.erase a) hn.2 fun b hb => (List.mem_erase_of_ne (fun e => hn.1 (by rw [← e]; exact hb))).2 (hs b (List.mem_cons_of_mem _ hb))
    rw [List.length_erase_of_mem ha] at ih
    have := List.length_pos_of_mem ha
    simp only [List.length_cons]; omega
def kno (kn : List Bool) (j : Nat) : Bool := decide (kn.length ≤ j) || rowB kn j
/-- The gaps from a slot to another one. -/
def gapsN (m : Mp) (a : Int) : Nat → List Int
  | 0 => []
  | n + 1 => gapsN m a n ++ (if (mget m (a + n)).isSome = true then [] else [a + n])
def gapsL (m : Mp) (a b : Int) : List Int := gapsN m a (b - a).toNat
theorem gapsN_len (m : Mp) (a : Int) : ∀ n, (gapsN m a n).length ≤ n
  | 0 => Nat.le_refl _
  | n + 1 => by
    have := gapsN_len m a n
    simp only [gapsN, List.length_append]
    split <;> simp <;> omega
theorem gapsN_congr {m m' : Mp} {a : Int} (h : ∀ k, a ≤ k → mget m k = mget m' k) : ∀ n, gapsN m a n = gapsN m' a n
  | 0 => rfl
  | n + 1 => by
    simp only [gapsN]
    rw [gapsN_congr h n, h (a + n) (by omega)]
theorem gapsL_self (m : Mp) (a : Int) : gapsL m a a = [] := by unfold gapsL; simp [gapsN]
theorem gapsL_some {m : Mp} {a b : Int} (h : a ≤ b) (hs : (mget m b).isSome = true) : gapsL m a (b + 1) = gapsL m a b := by
  unfold gapsL
  have : (b + 1 - a).toNat = (b - a).toNat + 1 := by omega
  have e : a + ((b - a).toNat : Int) = b := by omega
  rw [this, gapsN, e, if_pos hs, List.append_nil]
theorem gapsL_none {m : Mp} {a b : Int} (h : a ≤ b) (hs : (mget m b).isSome = false) : gapsL m a (b + 1) = gapsL m a b ++ [b] := by
  unfold gapsL
  have : (b + 1 - a).toNat = (b - a).toNat + 1 := by omega
  have e : a + ((b - a).toNat : Int) = b := by omega
  rw [this, gapsN, e, if_neg (by rw [hs]; decide)]

section
variable (vals : List (List UInt8)) (kn : List Bool)
def i1 (s : A1) : Prop := 0 ≤ s.i ∧ s.i ≤ vals.length ∧ s.n = IntKind.i64.wrap (tot (vals.take s.i.toNat))
open Classical in
def val (i k : Int) : Option (List UInt8) := if 0 ≤ k ∧ k < i ∧ kno kn k.toNat = true then some (rowS vals k.toNat) else none
structure I2 (s : B1) : Prop where
  i0 : 0 ≤ s.i
  iN : s.i ≤ vals.length
  m : ∀ k, mget s.m k = val vals kn s.i k
  n0 : 0 ≤ s.next
  nm : s.next ≤ s.most
  mi : s.most ≤ s.i
  low : ∀ k, 0 ≤ k → k < s.next → (mget s.m k).isSome = true
  nx : mget s.m s.next = none
  top : ∀ k, (mget s.m k).isSome = true → k < s.most
end
def i3 (m : Mp) (a : Int) (s : R1) : Prop := a ≤ s.n ∧ ∀ k, a ≤ k → k < s.n → (mget m k).isSome = true
def i4 (m : Mp) (a b : Int) (s : G1) : Prop := a ≤ s.n ∧ s.n ≤ b ∧ s.l = gapsL m a s.n
def i5 (a _b : List Int) (s : R1) : Prop := 0 ≤ s.n ∧ s.n ≤ a.length
structure I6 (m0 : Mp) (bs0 : List Nat) (_clk : Nat) (f : Int) (s : J1) : Prop where
  sub : ∀ k, mget s.m k = none ∨ mget s.m k = mget m0 k
  up : ∀ k, f ≤ k → mget s.m k = mget m0 k
  seen : ∀ k b, (k, b) ∈ kst s.m s.bs → b ∈ s.seen → f ≤ k
  nd : s.seen.Nodup
  sb : ∀ b, b ∈ s.seen → b ∈ bs0
  bb : ∀ b, b ∈ s.bs → b ∈ bs0
def i7 (vals : List (List UInt8)) (s : R1) : Prop := 0 ≤ s.n ∧ s.n ≤ vals.length

theorem rowB_kno {kn : List Bool} {i : Int} (h : 0 ≤ i) : (decide (w2 kn ≤ i) || rowB kn i.toNat) = kno kn i.toNat := by
  unfold kno w2
  have : decide ((kn.length : Int) ≤ i) = decide (kn.length ≤ i.toNat) := by
    rw [decide_eq_decide]; omega
  rw [this]

section
variable {vals : List (List UInt8)} {kn : List Bool} {cut : Int}
theorem val_some {i k : Int} : (val vals kn i k).isSome = true ↔ 0 ≤ k ∧ k < i ∧ kno kn k.toNat = true := by
  unfold val
  by_cases h : 0 ≤ k ∧ k < i ∧ kno kn k.toNat = true
  · rw [if_pos h]; simp [h]
  · rw [if_neg h]; simp [h]

/-- The law's second loop: a slot that is left out. -/
theorem skip_ok {s1 : B1} (h : I2 vals kn s1) (hlt : s1.i < w0 vals) (hN : (vals.length : Int) ≤ 200) (hk : kno kn s1.i.toNat = false) : part1 vals kn cut (I2 vals kn) s1 := by
  obtain ⟨a1, a2, a3, a4, a5, a6, a7, a8, a9⟩ := h
  have hlt' : s1.i < vals.length := hlt
  have ei : IntKind.i64.wrap (s1.i + 1) = s1.i + 1 := w64b (by omega) (by omega)
  refine ⟨⟨s1.i + 1, s1.next, s1.most, s1.m, s1.bs, s1.clk⟩, ⟨by simp only; omega, by simp only; omega, fun k => ?_, a4, a5, by simp only; omega, a7, a8, a9⟩, ?_, ei, rfl, rfl, rfl, rfl, rfl, rfl, rfl, rfl⟩
  · simp only
    rw [a3 k]
    unfold val
    have : (0 ≤ k ∧ k < s1.i ∧ kno kn k.toNat = true) ↔ (0 ≤ k ∧ k < s1.i + 1 ∧ kno kn k.toNat = true) := by
      constructor
      · rintro ⟨h1, h2, h3⟩; exact ⟨h1, by omega, h3⟩
      · rintro ⟨h1, h2, h3⟩
        refine ⟨h1, ?_, h3⟩
        by_cases e : k = s1.i
        · subst e; rw [hk] at h3; cases h3
        · omega
    by_cases h : 0 ≤ k ∧ k < s1.i ∧ kno kn k.toNat = true
    · rw [if_pos h, if_pos (this.1 h)]
    · rw [if_neg h, if_neg fun hh => h (this.2 hh)]
  · simp only [w9]; omega

theorem w30_eq {s1 : B1} : w30 vals s1 = w27 vals s1 := rfl

theorem w27_val {s1 : B1} (h : I2 vals kn s1) (hlt : s1.i < w0 vals) (hN : (vals.length : Int) ≤ 200) (hk : kno kn s1.i.toNat = true) : ∀ k, mget (w27 vals s1) k = val vals kn (s1.i + 1) k := by
  obtain ⟨a1, a2, a3, a4, a5, a6, a7, a8, a9⟩ := h
  have hlt' : s1.i < vals.length := hlt
  have eu : IntKind.u64.wrap s1.i = s1.i := wu (by omega) (by omega)
  intro k
  simp only [w27, eu]
  rw [mget_mput, a3 k]
  by_cases e : k = s1.i
  · subst e
    rw [if_pos rfl]; unfold val; rw [if_pos ⟨by omega, by omega, hk⟩]
  · rw [if_neg e]
    unfold val
    have : (0 ≤ k ∧ k < s1.i ∧ kno kn k.toNat = true) ↔ (0 ≤ k ∧ k < s1.i + 1 ∧ kno kn k.toNat = true) :=
      ⟨fun ⟨h1, h2, h3⟩ => ⟨h1, by omega, h3⟩, fun ⟨h1, h2, h3⟩ => ⟨h1, by omega, h3⟩⟩
    by_cases h : 0 ≤ k ∧ k < s1.i ∧ kno kn k.toNat = true
    · rw [if_pos h, if_pos (this.1 h)]
    · rw [if_neg h, if_neg fun hh => h (this.2 hh)]

/-- The law's second loop: a slot that is chosen, and what is settled. -/
theorem put_ok {s1 : B1} {s2 : R1} (h : I2 vals kn s1) (hlt : s1.i < w0 vals) (hN : (vals.length : Int) ≤ 200) (hk : kno kn s1.i.toNat = true) (h3 : i3 (w30 vals s1) (w31 s1) s2) (hn : w33 vals s1 s2 = true) :
    ∃ s'2, I2 vals kn s'2 ∧ vals.length - s'2.i.toNat < w9 vals s1 ∧ w10 s1 = s'2.i ∧ vals = vals ∧ kn = kn ∧ cut = cut ∧ w32 vals s1 = s'2.m ∧ w28 s1 = s'2.bs ∧ w29 s1 = s'2.clk ∧ s2.n = s'2.next ∧ max (w21 s1) s2.n = s'2.most := by
  obtain ⟨a1, a2, a3, a4, a5, a6, a7, a8, a9⟩ := h
  have hlt' : s1.i < vals.length := hlt
  have ei : IntKind.i64.wrap (s1.i + 1) = s1.i + 1 := w64b (by omega) (by omega)
  have eu : IntKind.u64.wrap s1.i = s1.i := wu (by omega) (by omega)
  have e21 : w21 s1 = s1.i + 1 := by
    simp only [w21, eu]
    rw [wu (by omega) (by omega)]; omega
  have em := w27_val ⟨a1, a2, a3, a4, a5, a6, a7, a8, a9⟩ hlt hN hk
  have h3' : s1.next ≤ s2.n ∧ ∀ k, s1.next ≤ k → k < s2.n → (mget (w27 vals s1) k).isSome = true := h3
  have hn' : (mget (w27 vals s1) s2.n).isSome = false := by simpa [w33] using hn
  have hle : s2.n ≤ s1.i + 1 := by
    rcases Int.lt_or_le s1.next s2.n with hh | hh
    · have := h3'.2 (s2.n - 1) (by omega) (by omega)
      rw [em, val_some] at this
      omega
    · omega
  have e32 : w32 vals s1 = w27 vals s1 := rfl
  refine ⟨⟨s1.i + 1, s2.n, s1.i + 1, w27 vals s1, w28 s1, w29 s1⟩, ⟨by simp only; omega, by simp only; omega, em, by simp only; omega, hle, by simp only; omega, fun k k0 k1 => ?_, ?_, fun k hk2 => ?_⟩, ?_, ei, rfl, rfl, rfl, e32, rfl, rfl, rfl, ?_⟩
  · simp only at k1 ⊢
    by_cases hh : s1.next ≤ k
    · exact h3'.2 k hh k1
    · have := a7 k k0 (by omega)
      rw [a3 k, val_some] at this
      rw [em, val_some]; exact ⟨this.1, by omega, this.2.2⟩
  · simp only
    cases hx : mget (w27 vals s1) s2.n with
    | none => rfl
    | some x => rw [hx] at hn'; cases hn'
  · simp only at hk2 ⊢
    rw [em, val_some] at hk2; omega
  · simp only [w9]; omega
  · rw [e21]; simp only; omega

/-- A gap's round. -/
theorem gap_some {m : Mp} {a b : Int} {s : G1} (h : i4 m a b s) (ha : 0 ≤ a) (hb : b ≤ 1000) (hlt : s.n < b) (hg : (!(mget m s.n).isSome) = true) :
    ((s.l ++ [s.n]).length * 8 ≤ 140737488355328 ∧ (s.l ++ [s.n]).length ≤ 4611686018427387904) ∧ i4 m a b ⟨IntKind.u64.wrap (s.n + 1), s.l ++ [s.n]⟩ ∧ (b - IntKind.u64.wrap (s.n + 1)).toNat < (b - s.n).toNat := by
  obtain ⟨h1, h2, h3⟩ := h
  have e : IntKind.u64.wrap (s.n + 1) = s.n + 1 := wu (by omega) (by omega)
  have hlen : s.l.length ≤ 1000 := by
    rw [h3]
    have := gapsN_len m a (s.n - a).toNat
    unfold gapsL; omega
  rw [e]
  refine ⟨by rw [List.length_append]; simp only [List.length_cons, List.length_nil]; omega, ⟨by simp only; omega, by simp only; omega, ?_⟩, by omega⟩
  simp only
  rw [gapsL_none h1 (by simpa using hg), h3]
theorem gap_none {m : Mp} {a b : Int} {s : G1} (h : i4 m a b s) (ha : 0 ≤ a) (hb : b ≤ 1000) (hlt : s.n < b) (hg : (!(mget m s.n).isSome) = false) :
    i4 m a b ⟨IntKind.u64.wrap (s.n + 1), s.l⟩ ∧ (b - IntKind.u64.wrap (s.n + 1)).toNat < (b - s.n).toNat := by
  obtain ⟨h1, h2, h3⟩ := h
  have e : IntKind.u64.wrap (s.n + 1) = s.n + 1 := wu (by omega) (by omega)
  rw [e]
  refine ⟨⟨by simp only; omega, by simp only; omega, ?_⟩, by omega⟩
  simp only
  rw [gapsL_some h1 (by simpa using hg), h3]
end

section
theorem getD_at {α : Type} {l : List α} {j : Nat} (h : j < l.length) (d : α) : l.getD j d = l[j] := by
  rw [List.getD_eq_getElem?_getD, List.getElem?_eq_getElem h]; rfl
theorem lastT_app (l : List Nat) (b : Nat) : lastT (l ++ [b]) = b := by unfold lastT; simp
theorem idx_at {bs : List Nat} (hn : bs.Nodup) {j : Nat} (h : j < bs.length) : bs.idxOf (bornAt bs j) = j := by
  unfold bornAt
  rw [List.getD_eq_getElem?_getD, List.getElem?_eq_getElem h]
  exact hn.idxOf_getElem j h
theorem bdel_sub {m : Mp} {bs : List Nat} {k : Int} (b : Nat) (h : b ∈ bdel m bs k) : b ∈ bs := by
  unfold bdel at h
  obtain ⟨p, hp, rfl⟩ := List.mem_map.1 h
  exact (List.of_mem_zip (mem_mdel.1 hp).1).2

/-- A round of the loop that takes away. -/
theorem jump_ok {m0 : Mp} {bs0 : List Nat} {clk : Nat} {f : Int} {s : J1} (h : I6 m0 bs0 clk f s) (hl : s.bs.length = s.m.length) (hb : s.bs.Nodup) {j : Nat} (hj : j < s.m.length) (hs : ¬ bornAt s.bs j ∈ s.seen) :
    (s.seen ++ [bornAt s.bs j] ≠ [] ∧ lastT (s.seen ++ [bornAt s.bs j]) ∈ s.bs) ∧
    I6 m0 bs0 clk f ⟨bif decide (keyM s.m (List.idxOf (lastT (s.seen ++ [bornAt s.bs j])) s.bs) < f) then mdel s.m (keyM s.m (List.idxOf (lastT (s.seen ++ [bornAt s.bs j])) s.bs)) else s.m,
      bif decide (keyM s.m (List.idxOf (lastT (s.seen ++ [bornAt s.bs j])) s.bs) < f) then bdel s.m s.bs (keyM s.m (List.idxOf (lastT (s.seen ++ [bornAt s.bs j])) s.bs)) else s.bs, s.seen ++ [bornAt s.bs j]⟩ ∧
    bs0.length - (s.seen ++ [bornAt s.bs j]).length < bs0.length - s.seen.length := by
  obtain ⟨h1, h2, h3, h4, h5, h6⟩ := h
  have hjb : j < s.bs.length := by omega
  have hmem : bornAt s.bs j ∈ s.bs := by
    unfold bornAt
    rw [List.getD_eq_getElem?_getD, List.getElem?_eq_getElem hjb]
    exact List.getElem_mem hjb
  rw [lastT_app, idx_at hb hjb]
  have hrow : s.m[j]? = some s.m[j] := List.getElem?_eq_getElem hj
  have hkey : keyM s.m j = (s.m[j]).1 := by
    exact congrArg Prod.fst (getD_at (α := Int × List UInt8) hj (0, []))
  have hkst : (keyM s.m j, bornAt s.bs j) ∈ kst s.m s.bs := by
    rw [hkey]; exact kst_at hl.symm hrow
  have hnd : (s.seen ++ [bornAt s.bs j]).Nodup := by
    rw [List.nodup_append]
    refine ⟨h4, by simp, fun a ha b hb e => ?_⟩
    rw [List.mem_singleton] at hb
    exact hs (by rw [← hb, ← e]; exact ha)
  have hsb : ∀ b, b ∈ s.seen ++ [bornAt s.bs j] → b ∈ bs0 := by
    intro b hb
    rcases List.mem_append.1 hb with hb | hb
    · exact h5 b hb
    · rw [List.mem_singleton] at hb; rw [hb]; exact h6 _ hmem
  refine ⟨⟨by simp, hmem⟩, ?_, ?_⟩
  · by_cases hd : keyM s.m j < f
    · rw [decide_eq_true hd]
      simp only [cond_true]
      refine ⟨fun k => ?_, fun k hk => ?_, fun k b hkb hbs => ?_, hnd, hsb, fun b hb => h6 b (bdel_sub b hb)⟩
      · simp only
        rw [mget_mdel]
        split
        · exact .inl rfl
        · exact h1 k
      · simp only
        rw [mget_mdel, if_neg (by omega)]; exact h2 k hk
      · simp only at hkb hbs
        rw [mem_kst_mdel hl.symm] at hkb
        rcases List.mem_append.1 hbs with hbs | hbs
        · exact h3 k b hkb.1 hbs
        · rw [List.mem_singleton] at hbs
          subst hbs
          exact (hkb.2 (kst_inj hl.symm hb hkb.1 hkst)).elim
    · rw [decide_eq_false hd]
      simp only [cond_false]
      refine ⟨h1, h2, fun k b hkb hbs => ?_, hnd, hsb, h6⟩
      simp only at hkb hbs
      rcases List.mem_append.1 hbs with hbs | hbs
      · exact h3 k b hkb hbs
      · rw [List.mem_singleton] at hbs
        subst hbs
        have := kst_inj hl.symm hb hkb hkst
        omega
  · have := nodup_len hnd hsb
    rw [List.length_append] at this ⊢
    simp only [List.length_cons, List.length_nil] at this ⊢
    omega

/-- Behind the loop: what is left is what lies behind. -/
theorem jump_end {m0 : Mp} {bs0 : List Nat} {clk : Nat} {f : Int} {s : J1} (h : I6 m0 bs0 clk f s) (hl : s.bs.length = s.m.length) (hc : ∀ b, b ∈ s.bs → b < clk) (he : ∀ b, b ∈ s.bs → b < clk → b ∈ s.seen) : ∀ k, mget s.m k = if f ≤ k then mget m0 k else none := by
  intro k
  by_cases hk : f ≤ k
  · rw [if_pos hk]; exact h.up k hk
  · rw [if_neg hk]
    cases hx : mget s.m k with
    | none => rfl
    | some v =>
      obtain ⟨b, hb⟩ := kst_of_key hl.symm (mget_mem_of hx)
      obtain ⟨_, _, hbb⟩ := mem_kst_key hb
      exact (hk (h.seen k b hb (he b hbb (hc b hbb)))).elim
end

section
variable {vals : List (List UInt8)} {kn : List Bool} {cut : Int}
theorem nt {b : Bool} (h : (!b) = true) : b = false := by cases b <;> first | rfl | cases h
theorem tmodB {x L : Int} (h0 : 0 ≤ x) (hL : 0 < L) : 0 ≤ x.tmod L ∧ x.tmod L < L := by
  rw [Int.tmod_eq_emod_of_nonneg h0]
  exact ⟨Int.emod_nonneg _ (by omega), Int.emod_lt_of_pos _ hL⟩

/-- The law's last loop. -/
theorem last_ok {s1 : B1} {s7 : J1} {s11 : R1} (h2 : I2 vals kn s1) (hi : s1.i = vals.length) (hN : (vals.length : Int) ≤ 200) (h0 : 0 ≤ w48 cut s1) (hm : ∀ k, mget s7.m k = if w48 cut s1 ≤ k then mget s1.m k else none)
    (h11 : i7 vals s11) (hlt : w119 vals s11 = true) :
    (w120 kn s11 = false → (0 : Int) ≤ s11.n ∧ s11.n < w2 kn) ∧
    ((0 : Int) ≤ s11.n ∧ s11.n < w0 vals) ∧
    (bif w121 cut s1 s11 then w127 cut s1 s11 else w128 vals kn cut s1 s7 s11) = false := by
  obtain ⟨b1, b2⟩ := h11
  have hlt' : s11.n < vals.length := of_decide_eq_true hlt
  refine ⟨fun h => ⟨b1, by have : ¬ w2 kn ≤ s11.n := of_decide_eq_false h; omega⟩, ⟨b1, hlt'⟩, ?_⟩
  have eu : IntKind.u64.wrap s11.n = s11.n := wu (by omega) (by omega)
  by_cases hc : s11.n < w48 cut s1
  · have e1 : w121 cut s1 s11 = true := by simp only [w121, eu]; exact decide_eq_true hc
    rw [e1, cond_true]
    simp only [w127, w123, w122, e1, Bool.not_true, cond_false]; decide
  · have e1 : w121 cut s1 s11 = false := by simp only [w121, eu]; exact decide_eq_false hc
    rw [e1, cond_false]
    have e2 : w122 cut s1 s11 = true := by simp only [w122, e1, Bool.not_false]
    have e3 : w124 cut s1 s11 = false := by simp only [w124, w123, e2, cond_true]; decide
    have e4 : mget s7.m (IntKind.u64.wrap s11.n) = val vals kn vals.length s11.n := by
      rw [eu, hm, if_pos (by omega), h2.m, hi]
    have e5 : w125 cut s1 s7 s11 = kno kn s11.n.toNat := by
      simp only [w125, e2, Bool.true_and, e4]
      cases hk : kno kn s11.n.toNat with
      | true => rw [val_some]; exact ⟨b1, hlt', hk⟩
      | false =>
        cases hx : (val vals kn vals.length s11.n).isSome with
        | false => rfl
        | true => rw [val_some] at hx; rw [hk] at hx; exact nomatch hx.2.2
    have e6 : w126 kn cut s1 s7 s11 = false := by
      simp only [w126, e5]
      have : (w120 kn s11 || rowB kn s11.n.toNat) = kno kn s11.n.toNat := rowB_kno b1
      rw [this]
      cases kno kn s11.n.toNat <;> rfl
    simp only [w128, e3, e6, Bool.false_or]
    rw [e5, e2, cond_true, e4]
    cases hk : kno kn s11.n.toNat with
    | false => rfl
    | true =>
      have : val vals kn vals.length s11.n = some (rowS vals s11.n.toNat) := by unfold val; rw [if_pos ⟨b1, hlt', hk⟩]
      rw [this]; simp

set_option maxHeartbeats 0 in
theorem owed_ok (hT : ∀ r ∈ vals, r.length ≤ 140737488355328) : owed vals kn cut (i1 vals) (I2 vals kn) i3 i4 i5 I6 (i7 vals) := by
  refine ⟨⟨0, 0⟩, ⟨by simp, by simp, rfl⟩, ⟨rfl, rfl, rfl, rfl, rfl⟩, fun s hi1 hvals _ _ hcut _ => ⟨fun h1 => ?_, fun h1 => ⟨fun _ => rfl, fun h3 => ?_⟩⟩⟩
  · obtain ⟨b1, b2, b3⟩ := hi1
    have hlt : s.i < vals.length := of_decide_eq_true h1
    have hlt2 : s.i.toNat < vals.length := by omega
    have e1 := tot_take hlt2
    have ei : IntKind.i64.wrap (s.i + 1) = s.i + 1 := w64b (by have := hvals.1; omega) (by
      have h : vals.length ≤ maxI := hvals.1
      have : maxI = 9223372036854775807 := rfl
      omega)
    have et : (s.i + 1).toNat = s.i.toNat + 1 := by omega
    refine ⟨⟨b1, hlt⟩, ⟨IntKind.i64.wrap (s.n + (rowS vals s.i.toNat).length), s.i + 1⟩, ⟨by simp only; omega, by simp only; omega, ?_⟩, by simp only; omega, rfl, ei, rfl, rfl, rfl⟩
    simp only
    rw [et, e1, b3, wrap_add]; simp
  obtain ⟨b1, b2, b3⟩ := hi1
  have hge : ¬ s.i < vals.length := of_decide_eq_false (nt h1)
  have hi : s.i = vals.length := by omega
  have hcut' : 0 ≤ cut ∧ cut ≤ 65535 := by simpa [IntKind.has, IntKind.min, IntKind.max, IntKind.bits, IntKind.signed] using hcut
  have h3' : s.n = tot vals ∧ (vals.length : Int) ≤ 200 ∧ (kn.length : Int) ≤ 400 ∧ s.n ≤ 8192 := by
    obtain ⟨x1, x2⟩ := Bool.or_eq_false_iff.1 (nt h3)
    obtain ⟨x2, x3⟩ := Bool.or_eq_false_iff.1 x2
    have y1 : ¬ (200 : Int) < vals.length := of_decide_eq_false x1
    have y2 : ¬ (400 : Int) < kn.length := of_decide_eq_false x2
    have ht := tot_each hT
    have ht2 : vals.length * 140737488355328 ≤ 200 * 140737488355328 := Nat.mul_le_mul_right _ (by omega)
    have hn : s.n = tot vals := by
      rw [b3, hi]
      simp only [Int.toNat_natCast, List.take_length]
      exact w64b (by omega) (by omega)
    refine ⟨hn, ?_⟩
    have y3 : ¬ (8192 : Int) < s.n := of_decide_eq_false x3
    omega
  obtain ⟨hn, hN, hK, h8⟩ := h3'
  have hlens : ∀ j, j < vals.length → (rowS vals j).length ≤ 8192 := fun j hj => by
    have := tot_mem hj; omega
  clear h1 h3 b1 b2 b3 hge
  refine ⟨⟨0, 0, 0, [], [], 0⟩, ⟨by simp, by simp, fun k => ?_, by simp, by simp, by simp, fun k h1 h2 => (by simp only at h2; omega), rfl, fun k hk => (by simp [mget_nil] at hk)⟩,
    ⟨rfl, rfl, rfl, rfl, rfl, rfl, rfl, by simp, rfl, rfl⟩, fun s1 h2 _ _ _ _ hnd hp0 hbs hnx hms => ⟨fun h6 => ?_, fun h6 => ?_⟩⟩
  · simp only
    unfold val
    rw [if_neg (by omega)]; rfl
  · -- a slot
    have hlt : s1.i < vals.length := of_decide_eq_true h6
    have a1 := h2.i0
    have eu : IntKind.u64.wrap s1.i = s1.i := wu (by omega) (by omega)
    refine ⟨fun h7 => ⟨a1, of_decide_eq_true h7⟩, fun h8 => ?_, fun h8 => ?_⟩
    · refine skip_ok h2 hlt hN ?_
      have h8' : s1.i < w2 kn ∧ rowB kn s1.i.toNat = false := by simpa [w8, w7] using h8
      rw [← rowB_kno a1, h8'.2, decide_eq_false (by omega)]; rfl
    have hk : kno kn s1.i.toNat = true := by
      rw [← rowB_kno a1]
      simp only [w8, w7, Bool.not_eq_true', Bool.and_eq_false_iff, decide_eq_false_iff_not, Bool.not_eq_false'] at h8
      rcases h8 with h | h
      · rw [decide_eq_true (by omega)]; rfl
      · rw [h]; simp
    have e15 : w15 s1 = false := by
      simp only [w15, eu]
      rw [h2.m]
      cases hx : (val vals kn s1.i s1.i).isSome with
      | false => rfl
      | true => rw [val_some] at hx; omega
    have e17 : w17 s1 = false := by
      simp only [w17, eu]
      have := h2.n0
      have := h2.nm
      have := h2.mi
      rw [wu (by omega) (by omega)]
      exact decide_eq_false (by omega)
    refine ⟨⟨a1, hlt⟩, fun h12 => ?_, fun h12 => ⟨fun h16 => ?_, fun h16 => ?_⟩⟩
    · exfalso
      have := hlens s1.i.toNat (by omega)
      simp only [w12, w13, eu, Bool.or_eq_true, decide_eq_true_eq] at h12
      omega
    · exfalso
      simp only [w16, e15, w18, e17, cond_false, Bool.false_and, Bool.false_or, eu, decide_eq_true_eq] at h16
      omega
    refine ⟨⟨s1.next⟩, ⟨Int.le_refl _, fun k h1 h2 => (by simp only at h2; have : w31 s1 = s1.next := rfl; omega)⟩, ⟨rfl, rfl, rfl, rfl, rfl, rfl, rfl, rfl, rfl⟩, fun s2 h3 _ _ _ _ _ _ _ => ⟨fun hn => put_ok h2 hlt hN hk h3 hn, fun hn => ?_⟩⟩
    have em := w27_val h2 hlt hN hk
    have hs : (mget (w27 vals s1) s2.n).isSome = true := by simpa [w33] using hn
    rw [em, val_some] at hs
    have h3' : s1.next ≤ s2.n ∧ ∀ k, s1.next ≤ k → k < s2.n → (mget (w27 vals s1) k).isSome = true := h3
    have e34 : w34 s2 = s2.n + 1 := by simp only [w34]; exact wu (by omega) (by omega)
    refine ⟨⟨s2.n + 1⟩, ⟨?_, fun k k1 k2 => ?_⟩, by simp only; omega, e34, rfl, rfl, rfl, e34, rfl, rfl, rfl, rfl⟩
    · show s1.next ≤ s2.n + 1; omega
    · show (mget (w27 vals s1) k).isSome = true
      simp only at k2
      by_cases e : k = s2.n
      · subst e; rw [em, val_some]; exact hs
      · exact h3'.2 k k1 (by omega)
  -- behind it
  have hge : ¬ s1.i < vals.length := of_decide_eq_false (nt h6)
  have hi2 : s1.i = vals.length := by have := h2.iN; omega
  have q1 := h2.n0
  have q2 := h2.nm
  have q3 := h2.mi
  refine ⟨⟨s1.next, []⟩, ⟨Int.le_refl _, q2, (gapsL_self _ _).symm⟩, ⟨rfl, rfl, rfl, rfl, rfl, rfl, rfl⟩, fun s3 h4 _ _ _ _ _ _ _ => ⟨fun h39 => ⟨fun h40 => ?_, fun h40 => ?_⟩, fun h39 => ⟨fun h46 => ?_, fun h46 => ⟨?_, fun h49 => ⟨fun _ => rfl, fun h50 => ?_⟩, fun h50 => ⟨fun h51 => ?_, fun h51 => ?_⟩⟩⟩⟩⟩
  · obtain ⟨g1, g2, g3⟩ := gap_some h4 q1 (show s1.most ≤ 1000 by omega) (of_decide_eq_true h39) h40
    exact ⟨g1, _, g2, g3, rfl, rfl, rfl, rfl, rfl, rfl, rfl⟩
  · obtain ⟨g2, g3⟩ := gap_none h4 q1 (show s1.most ≤ 1000 by omega) (of_decide_eq_true h39) h40
    exact ⟨_, g2, g3, rfl, rfl, rfl, rfl, rfl, rfl, rfl⟩
  · exfalso
    have h46' : IntKind.u64.wrap (vals.length : Int) < s1.next := of_decide_eq_true h46
    rw [wu (by omega) (by omega)] at h46'
    omega
  · simp only [w47]; rw [wu (by omega) (by omega)]; omega
  · exfalso; rw [w50, h49] at h50; cases h50
  · exfalso
    have e47 : w47 s1 = s1.next + 2 := by simp only [w47]; exact wu (by omega) (by omega)
    have ec : IntKind.u64.wrap cut = cut := wu (by omega) (by omega)
    obtain ⟨t1, t2⟩ := tmodB hcut'.1 (show 0 < s1.next + 2 by omega)
    have e48 : w48 cut s1 = cut.tmod (s1.next + 2) := by simp only [w48, e47, ec]
    simp only [w51, w52, e48, Bool.or_eq_true, decide_eq_true_eq] at h51
    omega
  have e47 : w47 s1 = s1.next + 2 := by simp only [w47]; exact wu (by omega) (by omega)
  have ec : IntKind.u64.wrap cut = cut := wu (by omega) (by omega)
  obtain ⟨t1, t2⟩ := tmodB hcut'.1 (show 0 < s1.next + 2 by omega)
  have e48 : w48 cut s1 = cut.tmod (s1.next + 2) := by simp only [w48, e47, ec]
  rw [← e48] at t1 t2
  have hat : w48 cut s1 ≤ s1.next := by
    simp only [w50, w49, Bool.not_eq_true', decide_eq_false_iff_not] at h50; omega
  have e90 : w90 cut s1 = s1.next := by simp only [w90]; omega
  have e91 : w91 cut s1 = s1.most := by simp only [w91]; omega
  have h49 : w49 cut s1 = false := by simpa [w50] using h50
  have hs3 : s3.l = gapsL s1.m s1.next s1.most := by
    obtain ⟨g1, g2, g3⟩ := h4
    have : s3.n = s1.most := by
      have : s3.n ≤ s1.most := g2
      have : ¬ s3.n < s1.most := of_decide_eq_false (nt h39)
      omega
    rw [this] at g3; exact g3
  refine ⟨⟨s1.m, s1.bs, []⟩, ⟨fun k => .inr rfl, fun k _ => rfl, fun k b _ hb => (nomatch hb), List.nodup_nil, fun b hb => (nomatch hb), fun b hb => hb⟩, ⟨rfl, rfl, rfl, rfl, rfl, rfl, rfl, rfl, rfl, rfl⟩,
    fun s7 hJ _ hnd7 hp6 hp7 _ _ _ => ⟨?_, fun j hall => ⟨⟨⟨rfl, rfl, rfl, rfl⟩, rfl, rfl⟩, ⟨w90 cut s1⟩, ⟨Int.le_refl _, fun k h1 h2 => ?_⟩, ⟨rfl, rfl, rfl, rfl, rfl, rfl, rfl, rfl, rfl, rfl, rfl, rfl, rfl, rfl⟩, fun s8 h8 _ _ _ _ _ _ _ _ _ => ⟨fun h96 => ?_, fun h96 => ?_⟩⟩, fun j1 hj1 => ?_⟩⟩
  · by_cases hb : s7.bs = []
    · exact .inr (.inl hb)
    · obtain ⟨b, hb⟩ := List.exists_mem_of_ne_nil _ hb
      exact .inr (.inr ⟨b, hb, hp7.2.2 b hb⟩)
  · exfalso
    have : w94 cut s1 = w90 cut s1 := rfl
    simp only at h2; omega
  · -- what is left
    have hm := jump_end hJ hp7.1 hp7.2.2 hall
    have hm' : ∀ k, mget s7.m k = if w48 cut s1 ≤ k then mget s1.m k else none := hm
    have h8' : w90 cut s1 ≤ s8.n ∧ ∀ k, w90 cut s1 ≤ k → k < s8.n → (mget s7.m k).isSome = true := h8
    rw [e90] at h8'
    have hnn : mget s7.m s1.next = none := by rw [hm', if_pos hat, h2.nx]
    have hs8 : s8.n = s1.next := by
      rcases Int.lt_or_le s1.next s8.n with hh | hh
      · have := h8'.2 s1.next (Int.le_refl _) hh
        rw [hnn] at this; cases this
      · omega
    have e99 : w99 cut s1 s8 = s1.most := by simp only [w99, e91, hs8]; omega
    refine ⟨fun h => (by rw [h49] at h; cases h), fun _ => ⟨fun h => (by simp [w97] at h), fun _ => ⟨fun h => (by simp [w98, hs8] at h), fun _ => ⟨fun h => (by simp [w100, e99] at h), fun _ => ?_⟩⟩⟩⟩
    refine ⟨⟨s8.n, []⟩, ⟨Int.le_refl _, ?_, (gapsL_self _ _).symm⟩, by and_intros <;> rfl, fun s9 h9 _ _ _ _ _ _ _ _ _ _ => ⟨fun h105 => ⟨fun h106 => ?_, fun h106 => ?_⟩, fun h105 => ?_⟩⟩
    · show s8.n ≤ w99 cut s1 s8; rw [e99, hs8]; exact q2
    · have h9' : i4 s7.m s8.n (w99 cut s1 s8) s9 := h9
      obtain ⟨g1, g2, g3⟩ := gap_some h9' (by omega) (show w99 cut s1 s8 ≤ 1000 by omega) (of_decide_eq_true h105) h106
      exact ⟨g1, _, g2, g3, by and_intros <;> rfl⟩
    · have h9' : i4 s7.m s8.n (w99 cut s1 s8) s9 := h9
      obtain ⟨g2, g3⟩ := gap_none h9' (by omega) (show w99 cut s1 s8 ≤ 1000 by omega) (of_decide_eq_true h105) h106
      exact ⟨_, g2, g3, by and_intros <;> rfl⟩
    have hl : s9.l = s3.l := by
      obtain ⟨g1, g2, g3⟩ := h9
      have k2 : s9.n ≤ w99 cut s1 s8 := g2
      have k3 : s9.l = gapsL s7.m s8.n s9.n := g3
      have k4 : ¬ s9.n < w99 cut s1 s8 := of_decide_eq_false (nt h105)
      have : s9.n = s1.most := by omega
      rw [k3, hs3, this, hs8]
      unfold gapsL
      exact gapsN_congr (fun k hk => by rw [hm', if_pos (by omega)]) _
    refine ⟨fun h => (by simp [w113, w112, w67, hl] at h), fun _ => ⟨⟨0⟩, ⟨by simp, by simp⟩, ⟨rfl, by unfold part10; and_intros <;> rfl⟩, fun s10 h10 _ _ _ _ _ _ _ _ _ _ => ⟨fun h116 => ⟨?_, fun h => ?_, fun _ => ?_⟩, fun h116 => ?_⟩⟩⟩
    · have h116' : s10.n < w112 s9 := of_decide_eq_true h116
      have : w67 s3 = w112 s9 := by simp only [w67, w112, hl]
      exact ⟨⟨h10.1, h116'⟩, h10.1, by omega⟩
    · simp [w117, hl] at h
    · have h116' : s10.n < s9.l.length := of_decide_eq_true h116
      have h10' : 0 ≤ s10.n ∧ s10.n ≤ s9.l.length := h10
      have hlen : s9.l.length ≤ 1000 := by
        rw [hl, hs3]
        have := gapsN_len s1.m s1.next (s1.most - s1.next).toNat
        unfold gapsL; omega
      have e : IntKind.i64.wrap (s10.n + 1) = s10.n + 1 := w64b (by omega) (by omega)
      refine ⟨⟨s10.n + 1⟩, ⟨by simp only; omega, ?_⟩, ?_, e, by unfold part10; and_intros <;> rfl⟩
      · show s10.n + 1 ≤ s9.l.length; omega
      · show s9.l.length - (s10.n + 1).toNat < s9.l.length - s10.n.toNat; omega
    · refine ⟨⟨0⟩, ⟨by simp, by simp⟩, ⟨rfl, by unfold part11; and_intros <;> rfl⟩, fun s11 h11 _ _ _ _ _ _ _ _ _ _ _ => ⟨fun h119 => ?_, fun _ => rfl⟩⟩
      obtain ⟨r1, r2, r3⟩ := last_ok h2 hi2 hN t1 hm' h11 h119
      refine ⟨r1, fun _ _ _ _ => r2, fun h => (by rw [r3] at h; cases h), fun _ => ?_⟩
      have h11' := r2.2
      have b0 := r2.1
      have h11' : s11.n < vals.length := h11'
      have e : IntKind.i64.wrap (s11.n + 1) = s11.n + 1 := w64b (by omega) (by omega)
      exact ⟨⟨s11.n + 1⟩, ⟨by simp only; omega, by simp only; omega⟩, by simp only; omega, e, by unfold part11; and_intros <;> rfl⟩
  · -- a slot that is settled
    have hs : (mget s7.m s8.n).isSome = true := by simpa [w96] using h96
    have h8' : w90 cut s1 ≤ s8.n ∧ ∀ k, w90 cut s1 ≤ k → k < s8.n → (mget s7.m k).isSome = true := h8
    have hb : s8.n < 201 ∧ 0 ≤ s8.n := by
      rcases hJ.sub s8.n with h | h
      · rw [h] at hs; cases hs
      · rw [h] at hs
        have : (mget s1.m s8.n).isSome = true := hs
        rw [h2.m, val_some] at this; omega
    have e : w129 s8 = s8.n + 1 := by simp only [w129]; exact wu (by omega) (by omega)
    refine ⟨⟨s8.n + 1⟩, ⟨?_, fun k k1 k2 => ?_⟩, by simp only; omega, e, rfl, rfl, rfl, rfl, e, by unfold part9; and_intros <;> rfl⟩
    · show w90 cut s1 ≤ s8.n + 1; omega
    · show (mget s7.m k).isSome = true
      simp only at k2
      by_cases e : k = s8.n
      · subst e; exact hs
      · exact h8'.2 k k1 (by omega)
  · obtain ⟨g1, g2, g3⟩ := jump_ok hJ hp7.1 hp7.2.1 hj1.1 hj1.2
    refine ⟨⟨rfl, g1⟩, _, g2, g3, rfl, rfl, rfl, ?_, rfl, rfl, rfl, rfl, rfl, rfl⟩
    cases w134 cut s1 s7 j1 <;> rfl
end
end
end Go.Proofs.Ytdeoahhofhmgfaa.SlotsTrim
