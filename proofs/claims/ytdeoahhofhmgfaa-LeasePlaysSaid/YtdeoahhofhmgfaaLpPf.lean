/- A part of the proof that 'reevelaw26.LeasePlays' returns true for every input: what is owed of the law's own text. No condition. -/
import Derived.Test.YtdeoahhofhmgfaaLpVc
import Derived.Test.YtdeoahhofhmgfaaUrSum
import Derived.Test.YtdeoahhofhmgfaaAmE
namespace Go.Proofs.Ytdeoahhofhmgfaa.LeasePlays.Main
open Go.AM
noncomputable section
/-- The map holds what the two rows hold. -/
structure Rep (n : Int) (m : Mp) (has : List Bool) (tk : List Int) : Prop where
  lh : has.length = n.toNat
  lt : tk.length = n.toNat
  g : ∀ k : Int, mget m k = if 0 ≤ k ∧ k < n ∧ rowB has k.toNat = true then some (rowI tk k.toNat) else none
theorem Rep.init (n : Int) : Rep n [] (List.replicate n.toNat false) (List.replicate n.toNat 0) where
  lh := List.length_replicate
  lt := List.length_replicate
  g k := by
    rw [if_neg]; · rfl
    rintro ⟨h1, h2, h3⟩
    have : k.toNat < (List.replicate n.toNat false).length := by rw [List.length_replicate]; omega
    have e : rowB (List.replicate n.toNat false) k.toNat = (List.replicate n.toNat false)[k.toNat] := getD_at this false
    rw [e, List.getElem_replicate] at h3; cases h3
theorem rowB_set {l : List Bool} {i j : Nat} (hi : i < l.length) (b : Bool) : rowB (l.set i b) j = if j = i then b else rowB l j := by
  show (l.set i b).getD j false = if j = i then b else l.getD j false
  simp only [List.getD_eq_getElem?_getD, List.getElem?_set]
  by_cases h : i = j
  · subst h; simp [hi]
  · rw [if_neg h, if_neg (Ne.symm h)]
theorem rowI_set {l : List Int} {i j : Nat} (hi : i < l.length) (b : Int) : rowI (l.set i b) j = if j = i then b else rowI l j := by
  show (l.set i b).getD j 0 = if j = i then b else l.getD j 0
  simp only [List.getD_eq_getElem?_getD, List.getElem?_set]
  by_cases h : i = j
  · subst h; simp [hi]
  · rw [if_neg h, if_neg (Ne.symm h)]
theorem Rep.put {n : Int} {m : Mp} {has : List Bool} {tk : List Int} (h : Rep n m has tk) {fr t : Int} (h0 : 0 ≤ fr) (h1 : fr < n) (ht : 0 ≤ t) :
    Rep n (mput m fr (max ((mget m fr).getD 0) t)) (has.set fr.toNat true) (bif !rowB has fr.toNat || decide (rowI tk fr.toNat < t) then tk.set fr.toNat t else tk) where
  lh := by rw [List.length_set]; exact h.lh
  lt := by cases !rowB has fr.toNat || decide (rowI tk fr.toNat < t) <;> simp [h.lt]
  g k := by
    have hh : fr.toNat < has.length := by rw [h.lh]; omega
    have hk' : fr.toNat < tk.length := by rw [h.lt]; omega
    have hf := h.g fr
    rw [mget_mput, h.g k]
    by_cases hk : k = fr
    · subst hk
      rw [if_pos rfl, if_pos ⟨h0, h1, by rw [rowB_set hh, if_pos rfl]⟩]
      cases hb : rowB has k.toNat with
      | false =>
        rw [if_neg (by rw [hb]; rintro ⟨_, _, h⟩; cases h)] at hf
        rw [hf]
        simp only [Bool.not_false, Bool.true_or, cond_true, rowI_set hk', if_pos, Option.getD_none]
        rw [Int.max_eq_right ht]
      | true =>
        rw [if_pos ⟨h0, h1, hb⟩] at hf
        rw [hf]
        simp only [Bool.not_true, Bool.false_or, Option.getD_some]
        by_cases hlt : rowI tk k.toNat < t
        · rw [decide_eq_true hlt, cond_true, rowI_set hk', if_pos rfl, Int.max_eq_right (by omega)]
        · rw [decide_eq_false hlt, cond_false, Int.max_eq_left (by omega)]
    · rw [if_neg hk]
      by_cases hc : 0 ≤ k ∧ k < n
      · have hne : k.toNat ≠ fr.toNat := by omega
        have e1 : rowB (has.set fr.toNat true) k.toNat = rowB has k.toNat := by rw [rowB_set hh, if_neg hne]
        have e2 : rowI (bif !rowB has fr.toNat || decide (rowI tk fr.toNat < t) then tk.set fr.toNat t else tk) k.toNat = rowI tk k.toNat := by
          cases !rowB has fr.toNat || decide (rowI tk fr.toNat < t)
          · rfl
          · rw [cond_true, rowI_set hk', if_neg hne]
        rw [e1, e2]
      · rw [if_neg (fun h => hc ⟨h.1, h.2.1⟩), if_neg (fun h => hc ⟨h.1, h.2.1⟩)]
theorem nodup_mput {m : Mp} {k v : Int} (h : (m.map (·.1)).Nodup) : ((mput m k v).map (·.1)).Nodup := by
  unfold mput
  split
  · rw [List.map_map]
    refine Eq.mpr (congrArg List.Nodup (List.map_congr_left (g := fun p => p.1) fun p _ => ?_)) h
    simp only [Function.comp]
    split
    · rename_i e; exact e.symm
    · rfl
  · rename_i hs
    rw [List.map_append, List.nodup_append]
    refine ⟨h, by simp, fun a ha b hb => ?_⟩
    have : b = k := by simpa using hb
    subst this
    rintro rfl
    obtain ⟨p, hp, rfl⟩ := List.mem_map.1 ha
    exact hs (mget_some_iff.2 ⟨p, hp, rfl⟩)
theorem Rep.perm {n : Int} {m : Mp} {has : List Bool} {tk : List Int} (h : Rep n m has tk) (hn : (m.map (·.1)).Nodup) : m.Perm (Ref.mpOf has tk n) := by
  have hk2 : ((Ref.mpOf has tk n).map (·.1)).Nodup := by
    unfold Ref.mpOf
    rw [List.map_map]
    exact List.Pairwise.map _ (fun a b hab he => hab (by have : ((a : Nat) : Int) = b := he; omega)) (List.Pairwise.filter _ List.nodup_range)
  have nd : ∀ l : Mp, (l.map (·.1)).Nodup → l.Nodup := fun l hl => List.Pairwise.imp (fun hab he => hab (by rw [he])) (List.pairwise_map.1 hl)
  refine (List.perm_ext_iff_of_nodup (nd _ hn) (nd _ hk2)).2 fun p => ?_
  obtain ⟨k, v⟩ := p
  rw [← mget_some_mem hn, h.g k]
  unfold Ref.mpOf
  rw [List.mem_map]
  constructor
  · intro he
    split at he
    · rename_i hc
      refine ⟨k.toNat, List.mem_filter.2 ⟨List.mem_range.2 (by omega), hc.2.2⟩, ?_⟩
      have : rowI tk k.toNat = v := Option.some.inj he
      rw [this, Int.toNat_of_nonneg hc.1]
    · cases he
  · rintro ⟨a, ha, he⟩
    obtain ⟨h1, h2⟩ := List.mem_filter.1 ha
    have h1 := List.mem_range.1 h1
    have e1 : ((a : Nat) : Int) = k := congrArg Prod.fst he
    have e2 : rowI tk a = v := congrArg Prod.snd he
    subst e1; subst e2
    rw [if_pos ⟨by omega, by omega, by simpa using h2⟩]; simp
theorem Rep.len {n : Int} {m : Mp} {has : List Bool} {tk : List Int} (h : Rep n m has tk) (hn : (m.map (·.1)).Nodup) : m.length ≤ n.toNat := by
  rw [(h.perm hn).length_eq]
  unfold Ref.mpOf
  rw [List.length_map]
  exact Nat.le_trans (List.length_filter_le ..) (by rw [List.length_range]; exact Nat.le_refl _)
theorem Rep.untilB {n : Int} {m : Mp} {has : List Bool} {tk : List Int} (h : Rep n m has tk) (hn : (m.map (·.1)).Nodup) : untilB m n = untilB (Ref.mpOf has tk n) n := by
  unfold LeasePlays.untilB
  rw [(h.perm hn).length_eq]
theorem Rep.untilU {n len bound : Int} {m : Mp} {has : List Bool} {tk : List Int} (h : Rep n m has tk) (hn : (m.map (·.1)).Nodup) : untilU m n len bound = untilU (Ref.mpOf has tk n) n len bound := by
  unfold LeasePlays.untilU
  rw [h.untilB hn, (h.perm hn).length_eq, sortI_congr (l := vals m) (l' := vals (Ref.mpOf has tk n)) ((h.perm hn).map _)]
def inv (n : Int) (steps : List Stp) (s : M1) : Prop := 0 ≤ s.i ∧ s.i ≤ (steps.length : Int) ∧ Rep n s.m s.has s.tk
theorem notlt {a b : Int} : (!!decide (a ≤ b)) = !decide (b < a) := by
  rw [Bool.not_not]
  by_cases h : b < a
  · rw [decide_eq_true h, decide_eq_false (by omega)]; rfl
  · rw [decide_eq_false h, decide_eq_true (by omega)]; rfl
theorem ne_refl {a : Int} : decide (a ≠ a) = false := by simp
section
variable {length now bound bR bN n : Int} {steps : List Stp}
theorem part2_ok (h1 : 1 ≤ n) (h7 : n ≤ 7) : part2 length bound bR bN n := by
  have p0 : part0 n := ⟨by omega, rfl, by omega, by omega⟩
  have p1 : part1 n := ⟨by omega, rfl, by omega, by omega⟩
  unfold part2
  exact ⟨⟨p0, by simp only [and_self], p1, by simp only [and_self]⟩, ⟨p1, by simp only [and_self], p0, by simp only [and_self]⟩, by simp only [and_self]⟩
theorem n_rng (h : w12 length bound bR bN n = true) : 1 ≤ n ∧ n ≤ 7 := by
  unfold w12 w10 w7 w8 at h
  have h := nt h
  simp only [Bool.or_eq_false_iff, decide_eq_false_iff_not] at h
  omega
theorem step_wrap {i : Int} (h0 : 0 ≤ i) (h : i ≤ 300) : IntKind.i64.wrap (i + (1 : Int)) = i + 1 := w64b (by omega) (by omega)

theorem okEq_s1 (s1 : M1) : w42 n steps s1 = w37 n steps s1 := by
  unfold w42 w37
  cases w33 steps s1 <;> cases w34 n steps s1 <;> cases w35 steps s1 <;> cases w36 steps s1 <;> rfl
theorem errEq_s1 (s1 : M1) : w43 n steps s1 = false := by
  unfold w43; rw [okEq_s1]; exact ne_refl
theorem rng_s1 {s1 : M1} (h : w37 n steps s1 = true) : 0 ≤ (rowT steps s1.i.toNat).snd.fst ∧ (rowT steps s1.i.toNat).snd.fst < n ∧ 0 ≤ (rowT steps s1.i.toNat).snd.snd.snd.snd := by
  unfold w37 w33 w34 w36 at h
  have h := nt h
  simp only [Bool.or_eq_false_iff, decide_eq_false_iff_not] at h
  obtain ⟨h1, h2, _, h3⟩ := h
  have h3 : (decide ((0 : Int) ≤ (rowT steps s1.i.toNat).snd.snd.snd.snd) && decide ((rowT steps s1.i.toNat).snd.snd.snd.snd ≤ (17592186044416 : Int))) = true := by
    cases hh : (decide ((0 : Int) ≤ (rowT steps s1.i.toNat).snd.snd.snd.snd) && decide ((rowT steps s1.i.toNat).snd.snd.snd.snd ≤ (17592186044416 : Int))) with
    | true => rfl
    | false => rw [hh] at h3; cases h3
  simp only [Bool.and_eq_true, decide_eq_true_eq] at h3
  omega
theorem rep_s1 {s1 : M1} (h : Rep n s1.m s1.has s1.tk) : Rep n (w46 bR bN n steps s1) (w48 bR bN n steps s1) (w50 bR bN n steps s1) := by
  unfold w46 w48 w50 w47 w49
  rw [okEq_s1]
  cases h37 : w37 n steps s1 with
  | false => exact h
  | true =>
    cases w38 bR bN steps s1 with
    | false => exact h
    | true =>
      obtain ⟨g1, g2, g3⟩ := rng_s1 h37
      exact h.put g1 g2 g3
theorem nd_s1 {s1 : M1} (h : (s1.m.map (·.1)).Nodup) : ((w46 bR bN n steps s1).map (·.1)).Nodup := by
  unfold w46
  cases w42 n steps s1
  · exact h
  · cases w38 bR bN steps s1
    · exact h
    · exact nodup_mput h
theorem bEq_s1 {s1 : M1} (h : Rep n s1.m s1.has s1.tk) (hn : (s1.m.map (·.1)).Nodup) : w55 bR bN n steps s1 = w56 bR bN n steps s1 := by
  unfold w55 w56 w52; exact (rep_s1 h).untilB (nd_s1 hn)
theorem uEq_s1 {s1 : M1} (h : Rep n s1.m s1.has s1.tk) (hn : (s1.m.map (·.1)).Nodup) : w51 length bound bR bN n steps s1 = w53 length bound bR bN n steps s1 := by
  unfold w51 w53 w52; exact (rep_s1 h).untilU (nd_s1 hn)
theorem w54F_s1 {s1 : M1} (h : Rep n s1.m s1.has s1.tk) (hn : (s1.m.map (·.1)).Nodup) : w54 length bound bR bN n steps s1 = false := by
  unfold w54; rw [uEq_s1 h hn]; exact ne_refl
theorem w57F_s1 {s1 : M1} (h : Rep n s1.m s1.has s1.tk) (hn : (s1.m.map (·.1)).Nodup) : w57 bR bN n steps s1 = false := by
  unfold w57; rw [bEq_s1 h hn]; cases w56 bR bN n steps s1 <;> rfl
theorem w62F_s1 {s1 : M1} (h : Rep n s1.m s1.has s1.tk) (hn : (s1.m.map (·.1)).Nodup) : w62 length bound bR bN n steps s1 = false := by
  have h61 : w61 bR bN = false := by unfold w61; rw [decide_eq_true rfl, decide_eq_true rfl]; rfl
  unfold w62
  rw [w54F_s1 h hn, w57F_s1 h hn, h61]
  have h58 : w58 length bound bR bN n steps s1 = (w56 bR bN n steps s1 && decide ((rowT steps s1.i.toNat).snd.snd.snd.snd < w53 length bound bR bN n steps s1)) := by
    unfold w58; rw [uEq_s1 h hn, bEq_s1 h hn]
  unfold w59 w60
  rw [h58]
  cases w56 bR bN n steps s1 <;> cases decide ((rowT steps s1.i.toNat).snd.snd.snd.snd < w53 length bound bR bN n steps s1) <;> rfl
theorem obs_s1 {s1 : M1} (h : Rep n s1.m s1.has s1.tk) (hn : (s1.m.map (·.1)).Nodup) (h1 : 1 ≤ n) (h7 : n ≤ 7) : part7 bR bN n steps s1 ∧ ((w48 bR bN n steps s1).length = n.toNat ∧ (w50 bR bN n steps s1).length = n.toNat ∧ (1 : Int) ≤ n ∧ n ≤ (7 : Int)) := by
  have hr := rep_s1 (bR := bR) (bN := bN) (steps := steps) h
  have hl := hr.len (nd_s1 hn)
  exact ⟨⟨by omega, h1, h7⟩, hr.lh, hr.lt, h1, h7⟩
theorem in_s1 {s1 : M1} (h : Rep n s1.m s1.has s1.tk) (hk : w37 n steps s1 = true) : part5 steps s1 ∧ part6 steps s1 := by
  obtain ⟨g1, g2, g3⟩ := rng_s1 hk
  unfold part5 part6
  rw [h.lh, h.lt]
  omega

theorem okEq_s3 (s3 : M1) : w112 n steps s3 = w107 n steps s3 := by
  unfold w112 w107
  cases w103 steps s3 <;> cases w104 n steps s3 <;> cases w105 steps s3 <;> cases w106 steps s3 <;> rfl
theorem errEq_s3 (s3 : M1) : w113 n steps s3 = false := by
  unfold w113; rw [okEq_s3]; exact ne_refl
theorem rng_s3 {s3 : M1} (h : w107 n steps s3 = true) : 0 ≤ (rowT steps s3.i.toNat).snd.fst ∧ (rowT steps s3.i.toNat).snd.fst < n ∧ 0 ≤ (rowT steps s3.i.toNat).snd.snd.snd.snd := by
  unfold w107 w103 w104 w106 at h
  have h := nt h
  simp only [Bool.or_eq_false_iff, decide_eq_false_iff_not] at h
  obtain ⟨h1, h2, _, h3⟩ := h
  have h3 : (decide ((0 : Int) ≤ (rowT steps s3.i.toNat).snd.snd.snd.snd) && decide ((rowT steps s3.i.toNat).snd.snd.snd.snd ≤ (17592186044416 : Int))) = true := by
    cases hh : (decide ((0 : Int) ≤ (rowT steps s3.i.toNat).snd.snd.snd.snd) && decide ((rowT steps s3.i.toNat).snd.snd.snd.snd ≤ (17592186044416 : Int))) with
    | true => rfl
    | false => rw [hh] at h3; cases h3
  simp only [Bool.and_eq_true, decide_eq_true_eq] at h3
  omega
theorem rep_s3 {s3 : M1} (h : Rep n s3.m s3.has s3.tk) : Rep n (w116 bR bN n steps s3) (w118 bR bN n steps s3) (w120 bR bN n steps s3) := by
  unfold w116 w118 w120 w117 w119
  rw [okEq_s3]
  cases h37 : w107 n steps s3 with
  | false => exact h
  | true =>
    cases w108 bR bN steps s3 with
    | false => exact h
    | true =>
      obtain ⟨g1, g2, g3⟩ := rng_s3 h37
      exact h.put g1 g2 g3
theorem nd_s3 {s3 : M1} (h : (s3.m.map (·.1)).Nodup) : ((w116 bR bN n steps s3).map (·.1)).Nodup := by
  unfold w116
  cases w112 n steps s3
  · exact h
  · cases w108 bR bN steps s3
    · exact h
    · exact nodup_mput h
theorem bEq_s3 {s3 : M1} (h : Rep n s3.m s3.has s3.tk) (hn : (s3.m.map (·.1)).Nodup) : w125 bR bN n steps s3 = w126 bR bN n steps s3 := by
  unfold w125 w126 w122; exact (rep_s3 h).untilB (nd_s3 hn)
theorem uEq_s3 {s3 : M1} (h : Rep n s3.m s3.has s3.tk) (hn : (s3.m.map (·.1)).Nodup) : w121 length bound bR bN n steps s3 = w123 length bound bR bN n steps s3 := by
  unfold w121 w123 w122; exact (rep_s3 h).untilU (nd_s3 hn)
theorem w54F_s3 {s3 : M1} (h : Rep n s3.m s3.has s3.tk) (hn : (s3.m.map (·.1)).Nodup) : w124 length bound bR bN n steps s3 = false := by
  unfold w124; rw [uEq_s3 h hn]; exact ne_refl
theorem w57F_s3 {s3 : M1} (h : Rep n s3.m s3.has s3.tk) (hn : (s3.m.map (·.1)).Nodup) : w127 bR bN n steps s3 = false := by
  unfold w127; rw [bEq_s3 h hn]; cases w126 bR bN n steps s3 <;> rfl
theorem w62F_s3 {s3 : M1} (h : Rep n s3.m s3.has s3.tk) (hn : (s3.m.map (·.1)).Nodup) : w131 length bound bR bN n steps s3 = false := by
  have h61 : w61 bR bN = false := by unfold w61; rw [decide_eq_true rfl, decide_eq_true rfl]; rfl
  unfold w131
  rw [w54F_s3 h hn, w57F_s3 h hn, h61]
  have h58 : w128 length bound bR bN n steps s3 = (w126 bR bN n steps s3 && decide ((rowT steps s3.i.toNat).snd.snd.snd.snd < w123 length bound bR bN n steps s3)) := by
    unfold w128; rw [uEq_s3 h hn, bEq_s3 h hn]
  unfold w129 w130
  rw [h58]
  cases w126 bR bN n steps s3 <;> cases decide ((rowT steps s3.i.toNat).snd.snd.snd.snd < w123 length bound bR bN n steps s3) <;> rfl
theorem obs_s3 {s3 : M1} (h : Rep n s3.m s3.has s3.tk) (hn : (s3.m.map (·.1)).Nodup) (h1 : 1 ≤ n) (h7 : n ≤ 7) : part12 bR bN n steps s3 ∧ ((w118 bR bN n steps s3).length = n.toNat ∧ (w120 bR bN n steps s3).length = n.toNat ∧ (1 : Int) ≤ n ∧ n ≤ (7 : Int)) := by
  have hr := rep_s3 (bR := bR) (bN := bN) (steps := steps) h
  have hl := hr.len (nd_s3 hn)
  exact ⟨⟨by omega, h1, h7⟩, hr.lh, hr.lt, h1, h7⟩
theorem in_s3 {s3 : M1} (h : Rep n s3.m s3.has s3.tk) (hk : w107 n steps s3 = true) : part10 steps s3 ∧ part11 steps s3 := by
  obtain ⟨g1, g2, g3⟩ := rng_s3 hk
  unfold part10 part11
  rw [h.lh, h.lt]
  omega

theorem g79_s2 (s2 : M1) : (w79 steps s2) = (w84 steps s2) := by
  unfold w79 w84; cases (w77 steps s2) <;> cases (w78 steps s2) <;> rfl
theorem g82_s2 (s2 : M1) : (w82 steps s2) = ((w81 steps s2) && (w85 steps s2)) := by
  unfold w82 w85; rw [notlt]
theorem g81_s2 (s2 : M1) : (w81 steps s2) = !(w80 steps s2) := rfl
theorem gU_s2 (s2 : M1) : (w89 length steps s2) = (w92 length steps s2) := by
  unfold w89 w92; rw [g79_s2, g82_s2, g81_s2]
  cases (w84 steps s2) <;> cases (w80 steps s2) <;> cases (w85 steps s2) <;> rfl
theorem gR_s2 (s2 : M1) : (w91 steps s2) = (w94 steps s2) := by
  unfold w91 w94; rw [g79_s2, g82_s2, g81_s2]
  cases (w84 steps s2) <;> cases (w80 steps s2) <;> cases (w85 steps s2) <;> rfl
theorem gN_s2 (s2 : M1) : (w95 steps s2) = (w96 steps s2) := by
  unfold w95 w96; rw [g79_s2, g82_s2, g81_s2]
  cases (w84 steps s2) <;> cases (w80 steps s2) <;> cases (w85 steps s2) <;> rfl
theorem g86_s2 (s2 : M1) : (w86 steps s2) = false := by
  unfold w86; rw [g79_s2, g82_s2, g81_s2]
  cases (w84 steps s2) <;> cases (w80 steps s2) <;> cases (w85 steps s2) <;> rfl
theorem g87_s2 (s2 : M1) : (w87 steps s2) = false := by
  unfold w87; rw [g79_s2]; exact ne_refl
theorem g93_s2 (s2 : M1) : (w90 length steps s2) = (w93 length steps s2) := by
  unfold w90 w93; rw [gU_s2]
theorem g97_s2 (s2 : M1) : (w97 length steps s2) = false := by
  unfold w97; rw [gR_s2, gN_s2, g93_s2]
  rw [decide_eq_true rfl, decide_eq_true rfl]; rfl
theorem g98_s2 (s2 : M1) : (w98 length steps s2) = false := by
  unfold w98; rw [g93_s2]; cases (w93 length steps s2) <;> rfl
theorem g99_s2 (s2 : M1) : (w99 length steps s2) = false := by
  unfold w99; rw [g86_s2, g87_s2, g97_s2, g98_s2, gU_s2]
  rw [ne_refl]; rfl

theorem g79_s3 (s3 : M1) : (w138 length bound bR bN n steps s3) = (w147 length bound bR bN n steps s3) := by
  unfold w138 w147; cases (w135 length bound bR bN n steps s3) <;> cases (w137 length bound bR bN n steps s3) <;> rfl
theorem g82_s3 (s3 : M1) : (w144 length bound bR bN n steps s3) = ((w142 length bound bR bN n steps s3) && (w148 length bound bR bN n steps s3)) := by
  unfold w144 w148; rw [notlt]
theorem g81_s3 (s3 : M1) : (w142 length bound bR bN n steps s3) = !(w141 length bound bR bN n steps s3) := rfl
theorem gU_s3 (s3 : M1) : (w152 length bound bR bN n steps s3) = (w155 length bound bR bN n steps s3) := by
  unfold w152 w155; rw [g79_s3, g82_s3, g81_s3]
  cases (w147 length bound bR bN n steps s3) <;> cases (w141 length bound bR bN n steps s3) <;> cases (w148 length bound bR bN n steps s3) <;> rfl
theorem gR_s3 (s3 : M1) : (w154 length bound bR bN n steps s3) = (w157 length bound bR bN n steps s3) := by
  unfold w154 w157; rw [g79_s3, g82_s3, g81_s3]
  cases (w147 length bound bR bN n steps s3) <;> cases (w141 length bound bR bN n steps s3) <;> cases (w148 length bound bR bN n steps s3) <;> rfl
theorem gN_s3 (s3 : M1) : (w158 length bound bR bN n steps s3) = (w159 length bound bR bN n steps s3) := by
  unfold w158 w159; rw [g79_s3, g82_s3, g81_s3]
  cases (w147 length bound bR bN n steps s3) <;> cases (w141 length bound bR bN n steps s3) <;> cases (w148 length bound bR bN n steps s3) <;> rfl
theorem g86_s3 (s3 : M1) : (w149 length bound bR bN n steps s3) = false := by
  unfold w149; rw [g79_s3, g82_s3, g81_s3]
  cases (w147 length bound bR bN n steps s3) <;> cases (w141 length bound bR bN n steps s3) <;> cases (w148 length bound bR bN n steps s3) <;> rfl
theorem g87_s3 (s3 : M1) : (w150 length bound bR bN n steps s3) = false := by
  unfold w150; rw [g79_s3]; exact ne_refl
theorem g93_s3 (s3 : M1) : (w153 length bound bR bN n steps s3) = (w156 length bound bR bN n steps s3) := by
  unfold w153 w156; rw [gU_s3]
theorem g97_s3 (s3 : M1) : (w160 length bound bR bN n steps s3) = false := by
  unfold w160; rw [gR_s3, gN_s3, g93_s3]
  rw [decide_eq_true rfl, decide_eq_true rfl]; rfl
theorem g98_s3 (s3 : M1) : (w161 length bound bR bN n steps s3) = false := by
  unfold w161; rw [g93_s3]; cases (w156 length bound bR bN n steps s3) <;> rfl
theorem g99_s3 (s3 : M1) : (w162 length bound bR bN n steps s3) = false := by
  unfold w162; rw [g86_s3, g87_s3, g97_s3, g98_s3, gU_s3]
  rw [ne_refl]; rfl
theorem c132 (s3 : M1) : w132 length bound bR bN n steps s3 = !(rowT steps s3.i.toNat).fst := by simp only [w132, Bool.cond_self]
theorem c139 (s3 : M1) : w139 length bound bR bN n steps s3 = s3.gR := by simp only [w139, Bool.cond_self]
theorem c140 (s3 : M1) : w140 length bound bR bN n steps s3 = s3.gN := by simp only [w140, Bool.cond_self]
theorem c143 (s3 : M1) : w143 length bound bR bN n steps s3 = s3.gU := by simp only [w143, Bool.cond_self]
theorem c145 (s3 : M1) : w145 length bound bR bN n steps s3 = length := by simp only [w145, Bool.cond_self]
theorem c165 (s3 : M1) : w165 length bound bR bN n steps s3 = bR := by simp only [w165, Bool.cond_self]
theorem c166 (s3 : M1) : w166 length bound bR bN n steps s3 = bN := by simp only [w166, Bool.cond_self]
theorem c167 (s3 : M1) : w167 length bound bR bN n steps s3 = n := by simp only [w167, Bool.cond_self]
theorem c168 (s3 : M1) : w168 length bound bR bN n steps s3 = bound := by simp only [w168, Bool.cond_self]
theorem c63 (s1 : M1) : w63 length bound bR bN n steps s1 = bR := by simp only [w63, Bool.cond_self]
theorem c64 (s1 : M1) : w64 length bound bR bN n steps s1 = bN := by simp only [w64, Bool.cond_self]
theorem c65 (s1 : M1) : w65 length bound bR bN n steps s1 = n := by simp only [w65, Bool.cond_self]
theorem c66 (s1 : M1) : w66 length bound bR bN n steps s1 = length := by simp only [w66, Bool.cond_self]
theorem c67 (s1 : M1) : w67 length bound bR bN n steps s1 = bound := by simp only [w67, Bool.cond_self]
theorem c163 (s3 : M1) : w163 length bound bR bN n steps s3 = length := by simp only [w163, c145, Bool.cond_self]
theorem c164 (s3 : M1) : w164 length bound bR bN n steps s3 = length := by simp only [w164, c145, Bool.cond_self]
theorem c100 (s2 : M1) : w100 length steps s2 = length := by simp only [w100, Bool.cond_self]
theorem c101 (s2 : M1) : w101 length steps s2 = length := by simp only [w101, Bool.cond_self]

theorem pick {b : Bool} {m m' : Mp} {has has' : List Bool} {tk tk' : List Int} (h : Rep n m has tk) (h' : Rep n m' has' tk') : Rep n (bif b then m' else m) (bif b then has' else has) (bif b then tk' else tk) := by cases b <;> assumption
theorem owed_ok : owed length now bound bR bN n steps (inv n steps) := by
  unfold owed
  have p9 : ∀ {p : Prop}, w4 length now = true → w73 length now = true → p := fun h h' => by unfold w73 at h'; rw [h] at h'; cases h'
  have p12 : ∀ {p : Prop}, w10 length bound bR bN n = true → w12 length bound bR bN n = true → p := fun h h' => by unfold w12 at h'; rw [h] at h'; cases h'
  refine ⟨fun _ => rfl, fun hlen => ?_⟩
  have hl : (steps.length : Int) ≤ 300 := by
    have := nt hlen
    unfold w1 w0 at this
    have := of_decide_eq_false this; omega
  refine ⟨fun h4 => ⟨fun _ => ⟨fun h10 => ⟨fun _ => ?none, fun h12 => p12 h10 h12⟩, fun h12 => ⟨fun h10 => p12 h10 h12, fun _ => ⟨part2_ok (n_rng h12).1 (n_rng h12).2, ?hold⟩⟩⟩, fun h73 => p9 h4 h73⟩,
    fun h73 => ⟨fun h4 => p9 h4 h73, fun _ => ⟨fun h10 => ⟨fun _ => ?grant, fun h12 => p12 h10 h12⟩, fun h12 => ⟨fun h10 => p12 h10 h12, fun _ => ⟨part2_ok (n_rng h12).1 (n_rng h12).2, ?both⟩⟩⟩⟩⟩
  case none =>
    refine ⟨⟨0, 0, 0, 0, [], [], 0, _, _⟩, ⟨Int.le_refl _, Int.natCast_nonneg _, Rep.init n⟩, ⟨rfl, rfl, rfl, rfl⟩, fun s hs _ _ _ _ => ⟨fun hlt => ?_, fun _ => rfl⟩⟩
    have hlt : s.i < (steps.length : Int) := of_decide_eq_true hlt
    exact ⟨⟨hs.1, hlt⟩, ⟨s.i + 1, s.gR, s.gN, s.gU, s.m, s.bs, s.clk, s.has, s.tk⟩, ⟨by have := hs.1; show 0 ≤ s.i + 1; omega, by show s.i + 1 ≤ _; omega, hs.2.2⟩, by have := hs.1; show steps.length - (s.i + 1).toNat < steps.length - s.i.toNat; omega, rfl, step_wrap hs.1 (by omega), rfl, rfl⟩
  case hold =>
    obtain ⟨h1, h7⟩ := n_rng h12
    refine ⟨⟨0, 0, 0, 0, [], [], 0, List.replicate n.toNat false, List.replicate n.toNat 0⟩, ⟨Int.le_refl _, Int.natCast_nonneg _, Rep.init n⟩, ⟨rfl, rfl, rfl, rfl, rfl, rfl, rfl, rfl, rfl, rfl, List.nodup_nil, rfl, rfl, rfl, rfl, rfl, rfl, rfl, rfl, rfl⟩, ?_⟩
    intro s1 hs _ _ hnd
    intros
    refine ⟨fun hlt => ?_, fun _ => rfl⟩
    have hlt : s1.i < (steps.length : Int) := of_decide_eq_true hlt
    have f62 := w62F_s1 (length := length) (bound := bound) (bR := bR) (bN := bN) (steps := steps) hs.2.2 hnd
    refine ⟨⟨hs.1, hlt⟩, (fun _ => ⟨⟨⟨rfl, ⟨rfl, rfl⟩, rfl⟩, fun hk _ => ⟨⟨⟨(in_s1 hs.2.2 hk).1, fun _ => (in_s1 hs.2.2 hk).2⟩, fun _ => (in_s1 hs.2.2 hk).2⟩, (in_s1 hs.2.2 hk).1⟩⟩,
      fun _ => ⟨(obs_s1 hs.2.2 hnd h1 h7).1, (obs_s1 hs.2.2 hnd h1 h7).2, fun _ _ => ⟨(obs_s1 hs.2.2 hnd h1 h7).1, rfl, fun _ _ => ⟨rfl, rfl⟩, fun _ _ => ⟨rfl, rfl⟩⟩⟩⟩), fun h => ?_, fun _ => ?_⟩
    · exfalso
      rw [f62, errEq_s1, Bool.cond_self, Bool.and_false] at h
      cases h
    · refine ⟨⟨s1.i + 1, s1.gR, s1.gN, s1.gU, _, _, _, _, _⟩, ⟨by have := hs.1; show 0 ≤ s1.i + 1; omega, by show s1.i + 1 ≤ _; omega, ?_⟩, by have := hs.1; show steps.length - (s1.i + 1).toNat < steps.length - s1.i.toNat; omega, rfl, step_wrap hs.1 (by omega), c63 _, c64 _, c65 _, c66 _, c67 _, rfl, rfl, rfl, c63 _, c64 _, c65 _, c66 _, c67 _, rfl, rfl, c63 _, c64 _⟩
      simp only [w68, w71, w72, w45, w47, w49, Bool.cond_self]
      exact pick hs.2.2 (rep_s1 hs.2.2)
  case grant =>
    refine ⟨⟨0, 0, 0, w74 length now, [], [], 0, _, _⟩, ⟨Int.le_refl _, Int.natCast_nonneg _, Rep.init n⟩, ⟨rfl, rfl, rfl, rfl, rfl, rfl, rfl, rfl, rfl, rfl, rfl, rfl⟩, ?_⟩
    intro s2 hs
    intros
    refine ⟨fun hlt => ?_, fun _ => rfl⟩
    have hlt : s2.i < (steps.length : Int) := of_decide_eq_true hlt
    refine ⟨⟨hs.1, hlt⟩, fun _ => ⟨fun _ _ => ⟨rfl, rfl⟩, fun _ _ _ _ => rfl⟩, fun h => ?_, fun _ => ?_⟩
    · exfalso
      rw [g99_s2, Bool.and_false] at h
      cases h
    · refine ⟨⟨s2.i + 1, _, _, _, s2.m, s2.bs, s2.clk, s2.has, s2.tk⟩, ⟨by have := hs.1; show 0 ≤ s2.i + 1; omega, by show s2.i + 1 ≤ _; omega, hs.2.2⟩, by have := hs.1; show steps.length - (s2.i + 1).toNat < steps.length - s2.i.toNat; omega, rfl, step_wrap hs.1 (by omega), ?_, rfl, rfl, rfl, ?_, ?_, ?_, ?_, rfl, rfl⟩
      · simp only [c100, Bool.cond_self]
      · simp only [c101, Bool.cond_self]
      · (simp only [← gR_s2]) <;> rfl
      · (simp only [← gN_s2]) <;> rfl
      · (simp only [← gU_s2]) <;> rfl
  case both =>
    obtain ⟨h1, h7⟩ := n_rng h12
    refine ⟨⟨0, 0, 0, w74 length now, [], [], 0, List.replicate n.toNat false, List.replicate n.toNat 0⟩, ⟨Int.le_refl _, Int.natCast_nonneg _, Rep.init n⟩, ⟨rfl, rfl, rfl, rfl, rfl, rfl, rfl, rfl, rfl, rfl, rfl, rfl, rfl, rfl, rfl, rfl, rfl, rfl, List.nodup_nil, rfl, rfl, rfl, rfl, rfl, rfl, rfl, rfl, rfl⟩, ?_⟩
    intro s3 hs _ _ _ _ _ _ _ _ _ _ hnd
    intros
    refine ⟨fun hlt => ?_, fun _ => rfl⟩
    have hlt : s3.i < (steps.length : Int) := of_decide_eq_true hlt
    have f62 := w62F_s3 (length := length) (bound := bound) (bR := bR) (bN := bN) (steps := steps) hs.2.2 hnd
    refine ⟨⟨hs.1, hlt⟩, (fun _ => ⟨⟨⟨rfl, ⟨rfl, rfl⟩, rfl⟩, fun hk _ => ⟨⟨⟨(in_s3 hs.2.2 hk).1, fun _ => (in_s3 hs.2.2 hk).2⟩, fun _ => (in_s3 hs.2.2 hk).2⟩, (in_s3 hs.2.2 hk).1⟩⟩,
      fun _ => ⟨(obs_s3 hs.2.2 hnd h1 h7).1, (obs_s3 hs.2.2 hnd h1 h7).2, fun _ _ => ⟨(obs_s3 hs.2.2 hnd h1 h7).1, rfl, fun _ _ => ⟨rfl, rfl⟩, fun _ _ => ⟨rfl, rfl⟩⟩⟩⟩), fun h => ?_, fun _ => ⟨fun _ => ⟨fun _ _ => ⟨rfl, rfl⟩, fun _ _ _ _ => rfl⟩, fun h => ?_, fun _ => ?_⟩⟩
    · exfalso
      rw [f62, errEq_s3, Bool.cond_self, Bool.and_false] at h
      cases h
    · exfalso
      rw [g99_s3, Bool.and_false] at h
      cases h
    · refine ⟨⟨s3.i + 1, _, _, _, _, _, _, _, _⟩, ⟨by have := hs.1; show 0 ≤ s3.i + 1; omega, by show s3.i + 1 ≤ _; omega, ?_⟩, by have := hs.1; show steps.length - (s3.i + 1).toNat < steps.length - s3.i.toNat; omega, rfl, step_wrap hs.1 (by omega), ?_, rfl, rfl, rfl, ?_, ?_, ?_, ?_, c165 _, c166 _, c167 _, c145 _, c168 _, rfl, rfl, rfl, c165 _, c166 _, c167 _, c145 _, c168 _, rfl, rfl, c165 _, c166 _⟩
      · simp only [w169, w172, w173, w115, w117, w119, Bool.cond_self]
        exact pick hs.2.2 (rep_s3 hs.2.2)
      · simp only [c163, c145, Bool.cond_self]
      · simp only [c164, c145, Bool.cond_self]
      · (simp only [← gR_s3]) <;> rfl
      · (simp only [← gN_s3]) <;> rfl
      · (simp only [← gU_s3]) <;> rfl
end
end
end Go.Proofs.Ytdeoahhofhmgfaa.LeasePlays.Main
