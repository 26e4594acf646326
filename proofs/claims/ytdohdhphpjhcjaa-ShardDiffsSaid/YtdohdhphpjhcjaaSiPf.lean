/- A part of the proof that 'reevelaw28.ShardSilent' returns true for every input: what is owed, in plain words. No condition. -/
import Derived.Test.YtdohdhphpjhcjaaSiVc
import Derived.Test.YtdohdhphpjhcjaaAmE
namespace Go.Proofs.Ytdohdhphpjhcjaa.Sh
open Go.AM
noncomputable section
theorem w64b {n : Int} (h1 : -9223372036854775808 ≤ n) (h2 : n ≤ 9223372036854775807) : IntKind.i64.wrap n = n := by
  simp only [IntKind.wrap, IntKind.bits, IntKind.signed, Bool.true_and, decide_eq_true_eq, Nat.reduceSub, Int.reducePow, ge_iff_le]
  split <;> omega
/-- Two machines: what is known of a, and of b. -/
def mG (a b : Int) (x y : Seen) : Mp := [(min a b, if min a b = a then x else y), (max a b, if max a b = a then x else y)]
section
variable {a b : Int} (hab : min a b < max a b)
include hab
theorem mG_a (x y : Seen) : mget (mG a b x y) a = some x := by
  unfold mget mG
  rcases Int.lt_or_le a b with h | h
  · rw [Int.min_eq_left (by omega), Int.max_eq_right (by omega)]; simp
  · rw [Int.min_eq_right h, Int.max_eq_left h]
    have : b ≠ a := by intro e; subst e; simp at hab
    simp [this]
theorem mG_b (x y : Seen) : mget (mG a b x y) b = some y := by
  have hne : a ≠ b := by intro e; subst e; simp at hab
  unfold mget mG
  rcases Int.lt_or_le a b with h | h
  · rw [Int.min_eq_left (by omega), Int.max_eq_right (by omega)]; simp [hne, Ne.symm hne]
  · rw [Int.min_eq_right h, Int.max_eq_left h]; simp [Ne.symm hne]
theorem mG_pa (x y z : Seen) : mput (mG a b x y) a z = mG a b z y := by
  have hne : a ≠ b := by intro e; subst e; simp at hab
  unfold mput
  rw [mG_a hab]
  unfold mG
  rcases Int.lt_or_le a b with h | h
  · rw [Int.min_eq_left (by omega), Int.max_eq_right (by omega)]; simp [Ne.symm hne]
  · rw [Int.min_eq_right h, Int.max_eq_left h]; simp [Ne.symm hne]
theorem mG_pb (x y z : Seen) : mput (mG a b x y) b z = mG a b x z := by
  have hne : a ≠ b := by intro e; subst e; simp at hab
  unfold mput
  rw [mG_b hab]
  unfold mG
  rcases Int.lt_or_le a b with h | h
  · rw [Int.min_eq_left (by omega), Int.max_eq_right (by omega)]; simp [hne, Ne.symm hne]
  · rw [Int.min_eq_right h, Int.max_eq_left h]; simp [hne, Ne.symm hne]
theorem mG_machs (x y : Seen) : machs (mG a b x y) = [min a b, max a b] := by
  unfold machs keys mG
  simp only [List.map_cons, List.map_nil]
  refine List.Perm.eq_of_pairwise (le := fun p q : Int => p ≤ q) (fun p q _ _ h1 h2 => by omega) (sortI_sorted _) ?_ (sortI_perm _)
  simp; omega
end
theorem mG_len {a b : Int} (x y : Seen) : (mG a b x y).length = 2 := rfl
def z7 : Seen := ([], false, 0)
def del (m : Mp) (most : Int) (k : Int) : Bool := decide (((mget m k).getD z7).2.2 < most)
/-- Those that are lost. -/
def lostF (m : Mp) (most : Int) (l : List Int) : List Int := l.filter fun k => !del m most k
def pollN (m : Mp) (l : List Int) : Mp := l.foldl (fun m k => mput m k (((mget m k).getD z7).1, ((mget m k).getD z7).2.1, min (IntKind.i64.wrap (((mget m k).getD z7).2.2 + 1)) 1000)) m
open Si
def ivs (a b most : Int) : Invs where
  a s := 1 ≤ s.i ∧ s.i ≤ most + 6 ∧ s.m = mG a b ([], s.t, 0) ([], false, s.i - 1)
  b i m0 s := ∀ t, m0 = mG a b ([], t, 0) ([], false, i - 1) → s.m = mG a b ([], t, 1) ([], false, i)
  e m0 s := s.e = 0 ∧ ∀ t n, m0 = mG a b ([], t, 1) ([], false, n) → s.m = mG a b ([], true, 0) ([], false, n)
  fb m0 s := s.e = 0 ∧ ∀ n, m0 = mG a b ([], true, 0) ([], false, n) → s.n = n
  fa m0 s := s.e = 0 ∧ ∀ n, m0 = mG a b ([], true, 0) ([], false, n) → s.n = 0
  g m0 s := s.e = 0 ∧ ∀ t n, m0 = mG a b ([], t, 0) ([], false, n) → s.m = mG a b ([], t, 0) ([], true, 0)
  p m0 l s := 0 ≤ s.k ∧ s.k ≤ l.length ∧ s.m = pollN m0 (l.take s.k.toNat)
  i m l s := s.i = 0 ∨ (s.i = 1 ∧ del m most (rowI l 0) = false)
  d m l s := (s.i = 0 ∧ s.j = 1 ∧ s.rows = l ∧ del m most (rowI l 0) = true) ∨ (s.j = 2 ∧ s.rows.length = 2 ∧ s.i = (lostF m most l).length ∧ s.rows.take (lostF m most l).length = lostF m most l)
  u _ := True
  x _ := False
theorem poll2 {a b : Int} (hab : min a b < max a b) {t : Bool} {n : Int} (h0 : 0 ≤ n) (h1 : n ≤ 900) : pollN (mG a b ([], t, 0) ([], false, n)) [min a b, max a b] = mG a b ([], t, 1) ([], false, n + 1) := by
  have w1 : IntKind.i64.wrap ((0 : Int) + 1) = 1 := w64b (by omega) (by omega)
  have w2 : IntKind.i64.wrap (n + 1) = n + 1 := w64b (by omega) (by omega)
  have m1 : min (1 : Int) 1000 = 1 := by omega
  have m2 : min (n + 1) 1000 = n + 1 := by omega
  rcases Int.lt_or_le a b with h | h
  · have e1 : min a b = a := by omega
    have e2 : max a b = b := by omega
    simp only [pollN, List.foldl_cons, List.foldl_nil, e1, e2, mG_a hab, mG_pa hab, mG_b hab, mG_pb hab, Option.getD_some, w1, w2, m1, m2]
  · have e1 : min a b = b := by omega
    have e2 : max a b = a := by omega
    simp only [pollN, List.foldl_cons, List.foldl_nil, e1, e2, mG_a hab, mG_pa hab, mG_b hab, mG_pb hab, Option.getD_some, w1, w2, m1, m2]
theorem two {x y : Int} {k : Int} (h0 : 0 ≤ k) (h2 : k ≤ 1) : [x, y].take (k + 1).toNat = [x, y].take k.toNat ++ [rowI [x, y] k.toNat] := by
  have : k = 0 ∨ k = 1 := by omega
  rcases this with rfl | rfl <;> rfl

theorem rows2 {l : List Int} (h : l.length = 2) : ∃ x y, l = [x, y] := by
  match l, h with
  | [x, y], _ => exact ⟨x, y, rfl⟩
/-- Looking for the first that is not lost. -/
theorem seek {a b most : Int} (hab : min a b < max a b) {x y : Seen} {s : I1} (hi : (ivs a b most).i (mG a b x y) (machs (mG a b x y)) s) (hd : x.2.2 < most) :
    (0 ≤ s.i ∧ s.i < 2) ∧ (del (mG a b x y) most (rowI (machs (mG a b x y)) s.i.toNat) = true → ∃ s' : D1, s'.i = s.i ∧ s'.j = s.i + 1 ∧ s'.rows = machs (mG a b x y) ∧ (ivs a b most).d (mG a b x y) (machs (mG a b x y)) s') ∧
      (del (mG a b x y) most (rowI (machs (mG a b x y)) s.i.toNat) = false → s.i = 0) := by
  have hda : del (mG a b x y) most a = true := by unfold del; rw [mG_a hab]; exact decide_eq_true hd
  have hdb : del (mG a b x y) most b = decide (y.2.2 < most) := by unfold del; rw [mG_b hab]; rfl
  rw [mG_machs hab] at hi ⊢
  rcases Int.lt_or_le a b with h | h
  · have e1 : min a b = a := by omega
    have e2 : max a b = b := by omega
    rw [e1, e2] at hi ⊢
    rcases hi with h0 | ⟨h1, h2⟩
    · rw [h0]
      refine ⟨by omega, fun _ => ⟨⟨0, 1, [a, b]⟩, rfl, rfl, rfl, .inl ⟨rfl, rfl, rfl, hda⟩⟩, fun hh => rfl⟩
    · have h2 : del (mG a b x y) most a = false := h2
      rw [hda] at h2; cases h2
  · have e1 : min a b = b := by omega
    have e2 : max a b = a := by omega
    rw [e1, e2] at hi ⊢
    rcases hi with h0 | ⟨h1, h2⟩
    · rw [h0]
      refine ⟨by omega, fun hh => ⟨⟨0, 1, [b, a]⟩, rfl, rfl, rfl, .inl ⟨rfl, rfl, rfl, hh⟩⟩, fun hh => rfl⟩
    · have h2 : del (mG a b x y) most b = false := h2
      rw [h1]
      have hF : lostF (mG a b x y) most [b, a] = [b] := by simp [lostF, h2, hda]
      refine ⟨by omega, fun hh => ⟨⟨1, 2, [b, a]⟩, rfl, rfl, rfl, .inr ⟨rfl, rfl, ?_, ?_⟩⟩, fun hh => ?_⟩
      · rw [hF]; rfl
      · rw [hF]; rfl
      · have hh : del (mG a b x y) most a = false := hh
        rw [hda] at hh; cases hh
/-- One step of the row that is kept. -/
theorem keepS {a b most : Int} (hab : min a b < max a b) {x y : Seen} {s : D1} (hs : (ivs a b most).d (mG a b x y) (machs (mG a b x y)) s) (hj : s.j < s.rows.length) :
    0 ≤ s.j ∧ 0 ≤ s.i ∧ s.i < s.rows.length ∧ s.j = 1 ∧ (ivs a b most).d (mG a b x y) (machs (mG a b x y)) ⟨bif !del (mG a b x y) most (rowI s.rows s.j.toNat) then s.i + 1 else s.i, s.j + 1, bif !del (mG a b x y) most (rowI s.rows s.j.toNat) then s.rows.set s.i.toNat (rowI s.rows s.j.toNat) else s.rows⟩ := by
  rw [mG_machs hab] at hs ⊢
  rcases hs with ⟨h0, h1, h2, h3⟩ | ⟨h1, h2, _⟩
  · rw [h0, h1, h2]
    refine ⟨by omega, by omega, by simp, rfl, .inr ?_⟩
    have h3 : del (mG a b x y) most (min a b) = true := h3
    have e : rowI [min a b, max a b] (1 : Int).toNat = max a b := rfl
    rw [e]
    cases hd : del (mG a b x y) most (max a b) with
    | true =>
      have hF : lostF (mG a b x y) most [min a b, max a b] = [] := by simp [lostF, h3, hd]
      rw [hF]
      exact ⟨rfl, rfl, rfl, rfl⟩
    | false =>
      have hF : lostF (mG a b x y) most [min a b, max a b] = [max a b] := by simp [lostF, h3, hd]
      rw [hF]
      exact ⟨rfl, rfl, rfl, rfl⟩
  · omega
theorem lost_first {a b most : Int} (hab : min a b < max a b) {x y : Seen} (hx : x.2.2 < most) : lostF (mG a b x y) most (machs (mG a b x y)) = if y.2.2 < most then [] else [b] := by
  have hda : del (mG a b x y) most a = true := by unfold del; rw [mG_a hab]; exact decide_eq_true hx
  have hdb : del (mG a b x y) most b = decide (y.2.2 < most) := by unfold del; rw [mG_b hab]; rfl
  rw [mG_machs hab]
  rcases Int.lt_or_le a b with h | h
  · rw [show min a b = a by omega, show max a b = b by omega]
    by_cases hy : y.2.2 < most
    · have hdb' : del (mG a b x y) most b = true := by rw [hdb]; exact decide_eq_true hy
      rw [if_pos hy]; simp [lostF, hda, hdb']
    · have hdb' : del (mG a b x y) most b = false := by rw [hdb]; exact decide_eq_false hy
      rw [if_neg hy]; simp [lostF, hda, hdb']
  · rw [show min a b = b by omega, show max a b = a by omega]
    by_cases hy : y.2.2 < most
    · have hdb' : del (mG a b x y) most b = true := by rw [hdb]; exact decide_eq_true hy
      rw [if_pos hy]; simp [lostF, hda, hdb']
    · have hdb' : del (mG a b x y) most b = false := by rw [hdb]; exact decide_eq_false hy
      rw [if_neg hy]; simp [lostF, hda, hdb']

set_option maxHeartbeats 0 in
theorem si_ok {a b most : Int} : owed a b most (ivs a b most) := by
  refine ⟨fun _ => rfl, fun _ => ⟨fun _ => rfl, fun h3 => ⟨fun _ => rfl, fun h5 => ⟨⟨⟨0⟩, trivial, rfl, rfl, rfl, rfl, rfl, rfl, List.nodup_nil, rfl⟩, fun _ _ _ _ _ _ _ _ _ => ⟨fun h4 => ?_, fun _ => ?_⟩⟩⟩⟩⟩
  · rw [show w5 most = !w4 most from rfl, h4] at h5; cases h5
  have hm : 1 ≤ most ∧ most ≤ 100 := by
    obtain ⟨q1, q2⟩ := Bool.or_eq_false_iff.1 (show (decide (most < 1) || decide (100 < most)) = false from nt h5)
    have q1 := of_decide_eq_false q1
    have q2 := of_decide_eq_false q2
    omega
  have hab : min a b < max a b := by
    obtain ⟨_, q⟩ := Bool.or_eq_false_iff.1 (show (decide (w2 a b < 0) || (decide (64 ≤ w2 a b) || decide (w2 a b ≤ w0 a b))) = false from nt h3)
    have : ¬ max a b ≤ min a b := of_decide_eq_false (Bool.or_eq_false_iff.1 q).2
    omega
  obtain ⟨hm1, hm2⟩ := hm
  have e11 : w11 most = most + 5 := w64b (by omega) (by omega)
  refine ⟨⟨1, false, _, _, _⟩, ⟨by simp, by show (1 : Int) ≤ most + 6; omega, ?_⟩, ⟨rfl, rfl, rfl, rfl, rfl, rfl, rfl, rfl⟩, fun s1 hi1 _ _ _ _ _ _ _ _ => ⟨fun h12 => ?_, fun h12 => ?_⟩⟩
  · show mput [(min a b, z7)] (max a b) z7 = mG a b ([], false, 0) ([], false, 1 - 1)
    unfold mG mput mget
    have hne : min a b ≠ max a b := by omega
    simp only [List.find?_cons, List.find?_nil, hne, decide_false, Option.map_none, Option.isSome_none, Bool.false_eq_true, if_false, z7, ite_self, Int.sub_self]
    rfl
  · -- a round
    have hi12 : s1.i ≤ most + 5 := by
      have : s1.i ≤ w11 most := of_decide_eq_true h12
      rw [e11] at this; exact this
    obtain ⟨i1, i2, i3⟩ := hi1
    have hl : machs s1.m = [min a b, max a b] := by rw [i3]; exact mG_machs hab _ _
    have hlen : s1.m.length = 2 := by rw [i3]; rfl
    refine ⟨⟨by show List.length s1.m ≤ 1000; omega, ⟨0, s1.m, _, _⟩, ⟨by simp, by show (0 : Int) ≤ _; omega, rfl⟩, ⟨rfl, rfl, rfl, rfl, rfl, rfl, rfl⟩, fun s2 hp _ _ _ _ _ _ _ => ⟨fun h19 => ?_, fun h19 => ?_⟩⟩, fun s3 hb3 _ _ _ _ _ _ _ _ => ?_⟩
    · -- a poll's round
      have hp : 0 ≤ s2.k ∧ s2.k ≤ (machs s1.m).length ∧ s2.m = pollN s1.m ((machs s1.m).take s2.k.toNat) := hp
      have hk : s2.k < ((machs s1.m).length : Int) := of_decide_eq_true h19
      obtain ⟨p1, p2, p3⟩ := hp
      have hk1 : s2.k ≤ 1 := by rw [hl] at hk; simp at hk; omega
      have hw : IntKind.i64.wrap (s2.k + 1) = s2.k + 1 := w64b (by omega) (by omega)
      refine ⟨⟨p1, hk⟩, ⟨s2.k + 1, _, _, _⟩, ⟨by show 0 ≤ s2.k + 1; omega, by show s2.k + 1 ≤ ((machs s1.m).length : Int); omega, ?_⟩, ?_, hw, rfl, rfl, rfl, rfl, rfl, rfl⟩
      · show _ = pollN s1.m ((machs s1.m).take (s2.k + 1).toNat)
        rw [hl, two p1 hk1]
        unfold pollN
        rw [List.foldl_append]
        simp only [List.foldl_cons, List.foldl_nil]
        rw [show (List.foldl _ s1.m _) = s2.m by rw [p3, hl]; rfl]
        rfl
      · show (((machs s1.m).length : Int) - (s2.k + 1)).toNat < (((machs s1.m).length : Int) - s2.k).toNat
        omega
    · -- behind a poll
      have hp : 0 ≤ s2.k ∧ s2.k ≤ (machs s1.m).length ∧ s2.m = pollN s1.m ((machs s1.m).take s2.k.toNat) := hp
      have hk : ¬ s2.k < ((machs s1.m).length : Int) := of_decide_eq_false (nt h19)
      obtain ⟨p1, p2, p3⟩ := hp
      have hk2 : s2.k = 2 := by rw [hl] at hk p2; simp at hk p2; omega
      refine ⟨⟨s2.m, _, _⟩, fun t ht => ?_, rfl, rfl, rfl, rfl, rfl, rfl, rfl, rfl⟩
      have ht : s1.m = mG a b ([], t, 0) ([], false, s1.i - 1) := ht
      show s2.m = mG a b ([], t, 1) ([], false, s1.i)
      have hpo := poll2 hab (t := t) (n := s1.i - 1) (by omega) (by omega)
      rw [show s1.i - 1 + 1 = s1.i by omega] at hpo
      rw [p3, hk2, hl, ← hpo, ht]
      rfl
    have m3 : s3.m = mG a b ([], s1.t, 1) ([], false, s1.i) := hb3 s1.t i3
    have ga : mget s3.m a = some ([], s1.t, 1) := by rw [m3]; exact mG_a hab _ _
    have g29 : w29 a s3 = [] := by show ((mget s3.m a).getD z7).1 = []; rw [ga]; rfl
    refine ⟨⟨fun h26 => ?_, fun _ => ⟨⟨0⟩, trivial, ⟨rfl, rfl, rfl, rfl, rfl, rfl, rfl, g29, rfl, rfl, rfl, rfl, rfl, rfl, rfl, rfl, rfl, rfl, rfl, rfl, rfl, rfl, rfl, rfl, rfl, rfl, rfl, ⟨rfl, rfl⟩⟩, fun _ _ _ _ _ _ _ _ _ _ => ⟨fun hf => (by cases hf), fun _ => ⟨rfl, ⟨0, _, _, _⟩, ⟨rfl, fun t n ht => ?_⟩, rfl, rfl, rfl, rfl, rfl, rfl, rfl, rfl, rfl⟩⟩⟩⟩, fun s6 he6 _ _ _ _ _ _ _ _ _ => ?_⟩
    · have : w26 a s3 = false := by show (!(mget s3.m a).isSome) = false; rw [ga]; rfl
      rw [this] at h26; cases h26
    · show mput s3.m a ([], true, 0) = _
      have ht : s3.m = mG a b ([], t, 1) ([], false, n) := ht
      rw [ht, mG_pa hab]
    have m6 : s6.e = 0 ∧ s6.m = mG a b ([], true, 0) ([], false, s1.i) := ⟨he6.1, he6.2 s1.t s1.i m3⟩
    obtain ⟨e6, m6⟩ := m6
    have gb6 : mget s6.m b = some ([], false, s1.i) := by rw [m6]; exact mG_b hab _ _
    have ga6 : mget s6.m a = some ([], true, 0) := by rw [m6]; exact mG_a hab _ _
    have e36 : w36 b s6 = true := by show (!!(mget s6.m b).isSome) = true; rw [gb6]; rfl
    have e38 : w38 a s6 = true := by show (!!(mget s6.m a).isSome) = true; rw [ga6]; rfl
    refine ⟨⟨⟨s1.i, 0⟩, ⟨rfl, fun n hn => ?_⟩, ?_, by rw [e36]; rfl, rfl, rfl, rfl, rfl, rfl, ⟨rfl, rfl, rfl, rfl⟩⟩, fun s7 h7 _ _ _ _ _ _ _ _ _ _ _ => ⟨⟨⟨0, 0⟩, ⟨rfl, fun n hn => rfl⟩, ?_, by rw [e38]; rfl, rfl, rfl, rfl, rfl, rfl, rfl, rfl, ⟨rfl, rfl, rfl, rfl⟩⟩, fun s8 h8 _ _ _ _ _ _ _ _ _ _ _ _ _ => ?_⟩⟩
    · have hn : s6.m = mG a b ([], true, 0) ([], false, n) := hn
      have := mG_b hab ([], true, 0) ([], false, n)
      rw [← hn, gb6] at this
      injection this with this
      injection this with _ this
      injection this
    · rw [e36, cond_true, gb6]; rfl
    · rw [e38, cond_true, ga6]; rfl
    have n7 : s7.e = 0 ∧ s7.n = s1.i := ⟨h7.1, h7.2 s1.i m6⟩
    have n8 : s8.e = 0 ∧ s8.n = 0 := ⟨h8.1, h8.2 s1.i m6⟩
    have hl6 : machs s6.m = [min a b, max a b] := by rw [m6]; exact mG_machs hab _ _
    have hF : lostF s6.m most (machs s6.m) = if s1.i < most then [] else [b] := by
      rw [m6]; exact lost_first hab (x := ([], true, 0)) (y := ([], false, s1.i)) (show (0 : Int) < most by omega)
    have h48 : w48 s6 = false := by simp [w48, e6]
    have h49 : w49 s7 = false := by simp [w49, n7.1]
    have h50 : w50 s8 = false := by simp [w50, n8.1]
    have h51 : w51 s1 s7 = false := by simp [w51, n7.2]
    have h52 : w52 s8 = false := by simp [w52, n8.2]
    have h6 : part6 a b most (ivs a b most) s1 s6 := by
      have hw : IntKind.i64.wrap (s1.i + 1) = s1.i + 1 := w64b (by omega) (by omega)
      refine ⟨⟨s1.i + 1, true, s6.m, _, _⟩, ⟨by show 1 ≤ s1.i + 1; omega, by show s1.i + 1 ≤ most + 6; omega, ?_⟩, ?_, hw, rfl, rfl, rfl, rfl, rfl, rfl, rfl⟩
      · show s6.m = mG a b ([], true, 0) ([], false, s1.i + 1 - 1)
        rw [m6, show s1.i + 1 - 1 = s1.i by omega]
      · show (most + 6 - (s1.i + 1)).toNat < (most + 6 - s1.i).toNat
        omega
    refine ⟨by show List.length s6.m ≤ 1000; rw [m6]; show 2 ≤ 1000; omega, ⟨0⟩, .inl rfl, ⟨rfl, ⟨rfl, rfl, rfl, rfl, rfl, rfl⟩⟩, fun s9 h9 _ _ _ _ _ _ _ => ?_⟩
    have h9 : (ivs a b most).i s6.m (machs s6.m) s9 := h9
    rw [m6] at h9
    obtain ⟨k1, k2, k3⟩ := seek hab (x := ([], true, 0)) (y := ([], false, s1.i)) h9 (show (0 : Int) < most by omega)
    rw [← m6] at k2 k3
    have hln : ((machs s6.m).length : Int) = 2 := by rw [hl6]; rfl
    refine ⟨fun _ => ⟨⟨k1.1, by show s9.i < ((machs s6.m).length : Int); omega⟩, fun h45 => ⟨fun h47 => ?_, fun _ => ?_⟩, fun h45 => ?_⟩, fun h44 => ?_⟩
    · have : s9.i = -1 := of_decide_eq_true h47
      omega
    · obtain ⟨s', q1, q2, q3, q4⟩ := k2 h45
      refine ⟨s', ?_, ⟨q1.symm, ?_, rfl, rfl, rfl, rfl, q3.symm⟩, fun s10 h10 _ _ _ _ _ _ _ => ⟨fun h64 => ?_, fun h64 => ?_⟩⟩
      · exact q4
      · show IntKind.i64.wrap (s9.i + 1) = s'.j
        rw [w64b (by omega) (by omega), q2]
      · have h10 : (ivs a b most).d s6.m (machs s6.m) s10 := h10
        have hj : s10.j < (s10.rows.length : Int) := of_decide_eq_true h64
        rw [m6] at h10
        obtain ⟨r1, r2, r3, r4, r5⟩ := keepS hab h10 hj
        rw [← m6] at r5
        refine ⟨⟨r1, hj⟩, fun _ => ⟨r2, r3⟩, _, r5, ?_, ?_, ?_, rfl, rfl, rfl, rfl, rfl⟩
        · show (((machs s6.m).length : Int) - (s10.j + 1)).toNat < (((machs s6.m).length : Int) - s10.j).toNat
          omega
        · show (bif w65 most s6 s10 then IntKind.i64.wrap (s10.i + 1) else s10.i) = (bif w65 most s6 s10 then s10.i + 1 else s10.i)
          have hl10 : s10.rows.length = 2 := by
            rw [mG_machs hab] at h10
            rcases h10 with ⟨_, _, h, _⟩ | ⟨_, h, _⟩
            · rw [h]; rfl
            · exact h
          rw [w64b (by omega) (by omega)]
        · show IntKind.i64.wrap (s10.j + 1) = s10.j + 1
          exact w64b (by omega) (by omega)
      · have h10 : (ivs a b most).d s6.m (machs s6.m) s10 := h10
        have hj : ¬ s10.j < (s10.rows.length : Int) := of_decide_eq_false (nt h64)
        rcases h10 with ⟨_, g1, g2, _⟩ | ⟨g0, g1, g2, g3⟩
        · rw [g1, g2, hl6] at hj; simp at hj
        · rw [hF] at g2 g3
          have hFl : ((if s1.i < most then ([] : List Int) else [b]).length) = if s1.i < most then 0 else 1 := by split <;> rfl
          rw [hFl] at g2 g3
          have hc : (w62 s10 : Nat) = 2 := g1
          have hi2 : s10.i ≤ 2 := by rw [g2]; split <;> simp
          have hi0 : 0 ≤ s10.i := by rw [g2]; split <;> simp
          have e67 : w67 s10 = s10.i.toNat := rfl
          have e68 : w68 s10 = 2 - s10.i.toNat := by show hiT (w62 s10) none - w67 s10 = _; rw [hc, e67]; rfl
          have e69 : (w69 s10).length = 2 := by
            simp only [w69, List.length_append, List.length_take, List.length_replicate, List.length_drop, e67, e68, g1]
            omega
          have e71 : w71 s10 = s10.i := by show ((hiT (w70 s10) (some s10.i) - 0 : Nat) : Int) = s10.i; show ((s10.i.toNat - 0 : Nat) : Int) = s10.i; omega
          have h74 : w74 s10 = false := by
            show decide ((1 : Int) < w71 s10) = false
            rw [e71, g2]; apply decide_eq_false; split <;> simp
          have h73 : w73 most s1 s10 = false := by
            show (!(decide (w71 s10 = 1) == decide (most ≤ s1.i))) = false
            rw [e71, g2]
            by_cases hlt : s1.i < most
            · rw [if_pos hlt, decide_eq_false (show ¬ most ≤ s1.i by omega)]; rfl
            · rw [if_neg hlt, decide_eq_true (show most ≤ s1.i by omega)]; rfl
          have h75 : w75 b most s1 s6 s7 s8 s10 = false := by
            show (w48 s6 || (w49 s7 || (w50 s8 || (w51 s1 s7 || (w52 s8 || (w73 most s1 s10 || (w74 s10 || w72 s10 && decide (rowI (w69 s10) 0 ≠ b)))))))) = false
            rw [h48, h49, h50, h51, h52, h73, h74]
            simp only [Bool.false_or]
            by_cases hlt : s1.i < most
            · have : w72 s10 = false := by show decide (w71 s10 = 1) = false; rw [e71, g2, if_pos hlt]; rfl
              rw [this]; rfl
            · rw [if_neg hlt, if_neg hlt] at g3
              rw [if_neg hlt] at g2
              obtain ⟨x, y, hxy⟩ := rows2 g1
              have hx : x = b := by rw [hxy] at g3; simpa using g3
              have : rowI (w69 s10) 0 = b := by
                have e1 : s10.i.toNat = 1 := by rw [g2]; rfl
                simp only [w69, e67, e1, hxy, List.take_succ_cons, List.take_zero, List.cons_append]
                exact hx
              rw [decide_eq_false (by rw [this]; simp), Bool.and_false]
          refine ⟨⟨hi0, by show s10.i ≤ (w62 s10 : Int); rw [hc]; exact hi2⟩, ⟨hi0, by show s10.i ≤ ((w69 s10).length : Int); rw [e69]; exact hi2⟩, fun _ _ _ _ _ _ _ h72 => ⟨by decide, ?_⟩, fun hh => ?_, fun _ => h6⟩
          · have : w71 s10 = 1 := of_decide_eq_true h72
            omega
          · rw [h75] at hh; cases hh
    · have hz := k3 (nt h45)
      refine ⟨⟨s9.i + 1⟩, .inr ⟨by show s9.i + 1 = 1; omega, ?_⟩, ?_, ?_, ⟨rfl, rfl, rfl, rfl, rfl, rfl⟩⟩
      · have := nt h45
        have h' : del s6.m most (rowI (machs s6.m) s9.i.toNat) = false := this
        rw [hz] at h'; exact h'
      · show (((machs s6.m).length : Int) - (s9.i + 1)).toNat < (((machs s6.m).length : Int) - s9.i).toNat
        omega
      · show IntKind.i64.wrap (s9.i + 1) = s9.i + 1
        exact w64b (by omega) (by omega)
    · have : ¬ s9.i < ((machs s6.m).length : Int) := of_decide_eq_false (nt h44)
      omega
  · -- behind the rounds
    obtain ⟨i1, i2, i3⟩ := hi1
    have gb : mget s1.m b = some ([], false, s1.i - 1) := by rw [i3]; exact mG_b hab _ _
    have g79 : w79 b s1 = [] := by show ((mget s1.m b).getD z7).1 = []; rw [gb]; rfl
    refine ⟨⟨fun h78 => ?_, fun _ => ⟨⟨0⟩, trivial, ⟨rfl, rfl, rfl, rfl, rfl, rfl, rfl, g79, rfl, rfl, rfl, rfl, rfl, rfl, rfl, rfl, rfl, rfl, rfl, rfl, rfl, rfl, rfl, rfl, rfl, rfl, rfl, ⟨rfl, rfl⟩⟩, fun _ _ _ _ _ _ _ _ _ _ => ⟨fun hf => (by cases hf), fun _ => ⟨rfl, ⟨0, _, _, _⟩, ⟨rfl, fun t n ht => ?_⟩, rfl, rfl, rfl, rfl, rfl, rfl, rfl, rfl⟩⟩⟩⟩, fun s12 he12 _ _ _ _ _ _ _ _ => ?_⟩
    · have : w78 b s1 = false := by show (!(mget s1.m b).isSome) = false; rw [gb]; rfl
      rw [this] at h78; cases h78
    · show mput s1.m b ([], true, 0) = _
      have ht : s1.m = mG a b ([], t, 0) ([], false, n) := ht
      rw [ht, mG_pb hab]
    have e12 : s12.e = 0 := he12.1
    have m12 : s12.m = mG a b ([], s1.t, 0) ([], true, 0) := he12.2 s1.t (s1.i - 1) i3
    have hl12 : machs s12.m = [min a b, max a b] := by rw [m12]; exact mG_machs hab _ _
    have hln : ((machs s12.m).length : Int) = 2 := by rw [hl12]; rfl
    have hF : lostF s12.m most (machs s12.m) = [] := by
      rw [m12, lost_first hab (x := ([], s1.t, 0)) (y := ([], true, 0)) (show (0 : Int) < most by omega)]
      rw [if_pos (show (0 : Int) < most by omega)]
    refine ⟨fun _ => ⟨by show List.length s12.m ≤ 1000; rw [m12]; show 2 ≤ 1000; omega, ⟨0⟩, .inl rfl, ⟨rfl, ⟨rfl, rfl, rfl, rfl, rfl, rfl⟩⟩, fun s13 h13 _ _ _ _ _ _ _ => ?_⟩, fun h82 => ?_⟩
    · have h13 : (ivs a b most).i s12.m (machs s12.m) s13 := h13
      rw [m12] at h13
      obtain ⟨k1, k2, k3⟩ := seek hab (x := ([], s1.t, 0)) (y := ([], true, 0)) h13 (show (0 : Int) < most by omega)
      rw [← m12] at k2 k3
      refine ⟨fun _ => ⟨⟨k1.1, by show s13.i < ((machs s12.m).length : Int); omega⟩, fun h89 => ⟨fun h90 => ?_, fun _ => ?_⟩, fun h89 => ?_⟩, fun h88 => ?_⟩
      · have : s13.i = -1 := of_decide_eq_true h90
        omega
      · obtain ⟨s', q1, q2, q3, q4⟩ := k2 h89
        refine ⟨s', q4, ⟨q1.symm, ?_, rfl, rfl, rfl, rfl, q3.symm⟩, fun s14 h14 _ _ _ _ _ _ _ => ⟨fun h97 => ?_, fun h97 => ?_⟩⟩
        · show IntKind.i64.wrap (s13.i + 1) = s'.j
          rw [w64b (by omega) (by omega), q2]
        · have h14 : (ivs a b most).d s12.m (machs s12.m) s14 := h14
          have hj : s14.j < (s14.rows.length : Int) := of_decide_eq_true h97
          rw [m12] at h14
          obtain ⟨r1, r2, r3, r4, r5⟩ := keepS hab h14 hj
          rw [← m12] at r5
          refine ⟨⟨r1, hj⟩, fun _ => ⟨r2, r3⟩, _, r5, ?_, ?_, ?_, rfl, rfl, rfl, rfl, rfl⟩
          · show (((machs s12.m).length : Int) - (s14.j + 1)).toNat < (((machs s12.m).length : Int) - s14.j).toNat
            omega
          · show (bif w98 most s12 s14 then IntKind.i64.wrap (s14.i + 1) else s14.i) = (bif w98 most s12 s14 then s14.i + 1 else s14.i)
            have hl14 : s14.rows.length = 2 := by
              rw [mG_machs hab] at h14
              rcases h14 with ⟨_, _, h, _⟩ | ⟨_, h, _⟩
              · rw [h]; rfl
              · exact h
            rw [w64b (by omega) (by omega)]
          · show IntKind.i64.wrap (s14.j + 1) = s14.j + 1
            exact w64b (by omega) (by omega)
        · have h14 : (ivs a b most).d s12.m (machs s12.m) s14 := h14
          have hj : ¬ s14.j < (s14.rows.length : Int) := of_decide_eq_false (nt h97)
          rcases h14 with ⟨_, g1, g2, _⟩ | ⟨g0, g1, g2, g3⟩
          · rw [g1, g2, hl12] at hj; simp at hj
          · rw [hF] at g2
            have g2 : s14.i = 0 := g2
            refine ⟨⟨by omega, by show s14.i ≤ (s14.rows.length : Int); omega⟩, ⟨by omega, by rw [g2]; exact Int.natCast_nonneg _⟩, ?_⟩
            rw [g2]; rfl
      · have hz := k3 (nt h89)
        refine ⟨⟨s13.i + 1⟩, .inr ⟨by show s13.i + 1 = 1; omega, ?_⟩, ?_, ?_, ⟨rfl, rfl, rfl, rfl, rfl, rfl⟩⟩
        · have h' : del s12.m most (rowI (machs s12.m) s13.i.toNat) = false := nt h89
          rw [hz] at h'; exact h'
        · show (((machs s12.m).length : Int) - (s13.i + 1)).toNat < (((machs s12.m).length : Int) - s13.i).toNat
          omega
        · show IntKind.i64.wrap (s13.i + 1) = s13.i + 1
          exact w64b (by omega) (by omega)
      · have : ¬ s13.i < ((machs s12.m).length : Int) := of_decide_eq_false (nt h88)
        omega
    · rw [show w82 s12 = decide (s12.e = 0) from rfl, e12] at h82; cases h82
end
end Go.Proofs.Ytdohdhphpjhcjaa.Sh
