/- A part of the proof that 'reevelaw10.NetOnce' returns true for every input: the walk's conditions hold. No condition. -/
import Derived.Test.YtdeoahhofhmgfaaNoVc
import Derived.Test.YtdeoahhofhmgfaaNoP
namespace Go.Proofs.Ytdeoahhofhmgfaa.No
open Go.AM Sz Mn
noncomputable section
def iH (s : H1) : Prop := 0 ≤ s.i
def iG (m : Lm) (_bs : List Nat) (s : V2) : Prop := s.js.Nodup ∧ (∀ j, j ∈ s.js → j < m.length) ∧ strip s.m = strip m
def iM (s : M1) : Prop := 0 ≤ s.i ∧ s.i ≤ 150 ∧ Inv s.i s.here s.last s.m s.sm
def iC (i : Int) (s : M1) : Prop := Inv (i + 1) s.here s.last s.m s.sm
theorem u64b {n : Int} (h1 : 0 ≤ n) (h2 : n ≤ 18446744073709551615) : IntKind.u64.wrap n = n := by
  simp only [IntKind.wrap, IntKind.bits, IntKind.signed, Bool.false_and, Int.reducePow]
  split
  · contradiction
  · omega
theorem or_f {a b : Bool} (h : (!(a || b)) = true) : a = false ∧ b = false := by cases a <;> cases b <;> simp_all
theorem no_ok (script : List Step) : owed script iH iG iM iC := by
  refine ⟨⟨0, 0⟩, (by show (0:Int) ≤ 0; omega), ⟨rfl, rfl, rfl⟩, fun s hs _ _ _ => ⟨fun h1 => ?_, fun _ => ⟨fun _ => rfl, fun h2 => ?_⟩⟩⟩
  · have hs : 0 ≤ s.i := hs
    obtain ⟨ha, hb⟩ := Bool.and_eq_true_iff.1 h1
    have ha := of_decide_eq_true ha
    have hb := of_decide_eq_true hb
    have e := w64b (n := s.i + 1) (by omega) (by omega)
    exact ⟨⟨hs, ha⟩, ⟨_, s.i + 1⟩, (by show 0 ≤ s.i + 1; omega), (by show ((300 : Int) - (s.i + 1)).toNat < ((300 : Int) - s.i).toNat; omega), rfl, e, rfl⟩
  have hlen : script.length ≤ 150 := by
    obtain ⟨h2, _⟩ := or_f h2
    have := of_decide_eq_false h2
    unfold w0 at this; omega
  refine ⟨⟨0, 0, 0, [], [], 0, [], [], 0, [], [], 0⟩, ⟨(by decide), (by decide), (by decide), (by decide), rfl, (by decide), ⟨fun k x h => (nomatch h), fun k h => (nomatch h)⟩⟩, (by and_intros <;> first | rfl | exact List.nodup_nil), fun s1 hs1 hsc _ _ hmn _ hbs _ _ _ _ _ _ _ => ⟨fun h9 => ?_, fun _ => rfl⟩⟩
  obtain ⟨i0, i150, hI⟩ := hs1
  have h9 : s1.i < (script.length : Int) := of_decide_eq_true h9
  obtain ⟨l0, li, hh, hhi, hF⟩ := hI
  have hI : Inv s1.i s1.here s1.last s1.m s1.sm := ⟨l0, li, hh, hhi, hF⟩
  have h4 : (w4 s1 : Int) = (s1.m.length : Int) := rfl
  have e16 : w16 s1 = true := by
    unfold w16
    rw [decide_eq_false (by omega)]
    rfl
  have e17 : w17 s1 = 0 := by unfold w17; rw [e16]; rfl
  have e19 : w19 s1 = s1.last + 1 := u64b (by omega) (by omega)
  have e20 : w20 s1 = s1.last + 1 := by unfold w20; rw [e16, e19]; rfl
  have e26 : w26 s1 = s1.here + 1 := w64b (by omega) (by omega)
  have e50 : w50 s1 = s1.here - 1 := w64b (by omega) (by omega)
  have e32 : w32 s1 = s1.last + 1 := by unfold w32; rw [e16, e19]; rfl
  have e75 : w75 s1 = s1.i + 1 := w64b (by omega) (by omega)
  have hmu : ((200 : Int) - (s1.i + 1)).toNat < w74 s1 := by
    show ((200 : Int) - (s1.i + 1)).toNat < ((200 : Int) - s1.i).toNat
    omega
  have h4n : w4 s1 ≤ 9223372036854775807 := by
    have : w4 s1 = s1.m.length := rfl
    omega
  refine ⟨⟨i0, h9⟩, ⟨fun _ => ⟨fun _ => h4n, fun h => ?_, fun h => ?_⟩, fun _ => ⟨fun _ => ⟨fun _ => h4n, fun h => ?_, fun h => ?_⟩, fun _ => ⟨fun _ => ⟨fun h => ?_, fun h => ?_⟩, fun _ => ⟨fun _ => ?_, fun _ => ⟨fun _ => ?_, fun _ => ⟨fun _ => ?_, fun _ => ?_⟩⟩⟩⟩⟩⟩, fun s3 h3 _ _ _ _ _ _ _ _ _ _ _ _ _ _ _ _ _ _ => ?_⟩
  -- sent
  · refine ⟨⟨s1.i, _, _, _, _, _, _, _, _, _, _, _⟩, ?_, rfl, rfl, rfl, rfl, rfl, rfl, rfl, rfl, rfl, rfl, rfl, rfl, rfl, ⟨rfl, rfl, rfl, rfl, rfl⟩⟩
    show Inv (s1.i + 1) (bif w18 script s1 then w26 s1 else s1.here) (bif w15 script s1 then w32 s1 else s1.last) (bif w15 script s1 then bif w16 s1 then mput s1.m (w19 s1) (w19 s1, w27 script s1) else w28 s1 else w28 s1) (bif w18 script s1 then mput s1.sm (w21 script s1) ((0 : Int), w27 script s1) else w33 s1)
    cases h15 : w15 script s1 with
    | true =>
      have e18 : w18 script s1 = true := by unfold w18; rw [h15, e17]; rfl
      have e21 : w21 script s1 = s1.last + 1 := by unfold w21; rw [h15, e20]; rfl
      rw [e18, e16, e19, e21, e26, e32]
      exact hI.put rfl rfl rfl rfl
    | false =>
      have e18 : w18 script s1 = false := by
        unfold w18; rw [h15]
        cases w13 script s1 <;> rfl
      rw [e18]
      exact hI.stay
  · exfalso
    cases h15 : w15 script s1 with
    | true =>
      have e21 : w21 script s1 = s1.last + 1 := by unfold w21; rw [h15, e20]; rfl
      have e22 : w22 script s1 = false := by unfold w22; rw [e21]; exact hF.newS
      rw [e22, Bool.and_false, Bool.and_false] at h
      cases h
    | false =>
      have e18 : w18 script s1 = false := by
        unfold w18; rw [h15]
        cases w13 script s1 <;> rfl
      rw [e18, Bool.false_and] at h
      cases h
  -- doubled
  · refine ⟨⟨s1.i, _, _, _, _, _, _, _, _, _, _, _⟩, ?_, rfl, rfl, rfl, rfl, rfl, rfl, rfl, rfl, rfl, rfl, rfl, rfl, rfl, ⟨rfl, rfl, rfl, rfl, rfl⟩⟩
    show Inv (s1.i + 1) (bif w38 script s1 then w26 s1 else s1.here) (bif w37 script s1 then w32 s1 else s1.last) (bif w37 script s1 then bif w16 s1 then mput s1.m (w19 s1) _ else w28 s1 else w28 s1) (bif w38 script s1 then mput s1.sm (w40 script s1) _ else w33 s1)
    cases h35 : w35 script s1 with
    | true =>
      have e36 : w36 script s1 = 0 := by unfold w36; rw [h35]; rfl
      have e37 : w37 script s1 = true := by unfold w37; rw [e36]; rfl
      have e38 : w38 script s1 = true := by unfold w38; rw [e37, e17]; rfl
      have e40 : w40 script s1 = s1.last + 1 := by unfold w40; rw [e37, e20]; rfl
      have hk : (mget s1.m (rowP script s1.i.toNat).snd.snd.snd.fst).isSome = true := by
        unfold w35 at h35; rwa [Bool.not_not] at h35
      obtain ⟨_, f1, f2, f3⟩ := hF.same hk w43
      rw [e38, e37, e16, e19, e40, e26, e32]
      refine hI.put rfl ?_ ?_ ?_
      · show _ = w44 script s1
        unfold w44; rw [h35]; exact f1
      · show _ = w45 script s1
        unfold w45; rw [h35]; exact f2
      · show _ = w46 script s1
        unfold w46; rw [h35]; exact f3
    | false =>
      have e36 : w36 script s1 = 5 := by unfold w36; rw [h35]; rfl
      have e37 : w37 script s1 = false := by unfold w37; rw [e36]; rfl
      have e38 : w38 script s1 = false := by unfold w38; rw [e37, e36]; rfl
      rw [e38, e37]
      exact hI.stay
  · exfalso
    cases h35 : w35 script s1 with
    | true =>
      have e36 : w36 script s1 = 0 := by unfold w36; rw [h35]; rfl
      have e37 : w37 script s1 = true := by unfold w37; rw [e36]; rfl
      have e40 : w40 script s1 = s1.last + 1 := by unfold w40; rw [e37, e20]; rfl
      have hk : (mget s1.m (rowP script s1.i.toNat).snd.snd.snd.fst).isSome = true := by
        unfold w35 at h35; rwa [Bool.not_not] at h35
      have e39 : w39 script s1 = false := by unfold w39; rw [hF.sent hk]; rfl
      have e41 : w41 script s1 = false := by unfold w41; rw [e39, e40, hF.newS]; rfl
      rw [e41, Bool.and_false, Bool.and_false] at h
      cases h
    | false =>
      have e36 : w36 script s1 = 5 := by unfold w36; rw [h35]; rfl
      have e37 : w37 script s1 = false := by unfold w37; rw [e36]; rfl
      have e38 : w38 script s1 = false := by unfold w38; rw [e37, e36]; rfl
      rw [e38, Bool.false_and] at h
      cases h
  -- dropped
  · refine ⟨⟨s1.i, _, _, _, _, _, _, _, _, _, _, _⟩, ?_, rfl, rfl, rfl, rfl, rfl, rfl, rfl, rfl, rfl, rfl, rfl, rfl, rfl, ⟨rfl, rfl, rfl, rfl, rfl⟩⟩
    show Inv (s1.i + 1) (bif w48 script s1 then w50 s1 else s1.here) s1.last (w51 script s1) (bif w48 script s1 then w54 script s1 else w33 s1)
    unfold w51
    cases h48 : w48 script s1 with
    | true =>
      have hk : (mget s1.m (rowP script s1.i.toNat).snd.snd.snd.fst).isSome = true := by
        have h := of_decide_eq_true h48
        unfold w36 w35 at h
        rw [Bool.not_not] at h
        cases hc : (mget s1.m (rowP script s1.i.toNat).snd.snd.snd.fst).isSome with
        | true => rfl
        | false => rw [hc] at h; exact absurd h (by decide)
      rw [e50]
      exact hI.del hmn hk
    | false => exact hI.stay
  · exfalso
    have hh := Bool.and_eq_true_iff.1 h
    have hk : (mget s1.m (rowP script s1.i.toNat).snd.snd.snd.fst).isSome = true := by
      have h := of_decide_eq_true hh.1
      unfold w36 w35 at h
      rw [Bool.not_not] at h
      cases hc : (mget s1.m (rowP script s1.i.toNat).snd.snd.snd.fst).isSome with
      | true => rfl
      | false => rw [hc] at h; exact absurd h (by decide)
    have e39 : w39 script s1 = false := by unfold w39; rw [hF.sent hk]; rfl
    rw [e39, Bool.and_false, Bool.and_false] at h
    cases h
  -- parted
  · refine ⟨⟨s1.i, s1.here, s1.last, s1.m, s1.bs, s1.clk, bif w57 script s1 then mput s1.cm (w58 script s1) (1 : Int) else w31 s1, bif w57 script s1 then bput s1.cm s1.cbs s1.cclk (w58 script s1) else s1.cbs, bif w57 script s1 then cput s1.cm s1.cclk (w58 script s1) else s1.cclk, s1.sm, s1.sbs, s1.sclk⟩, ?_, rfl, rfl, rfl, rfl, rfl, rfl, rfl, rfl, rfl, rfl, rfl, rfl, rfl, ⟨rfl, rfl, rfl, rfl, rfl⟩⟩
    exact hI.stay
  -- joined
  · refine ⟨⟨s1.i, s1.here, s1.last, s1.m, s1.bs, s1.clk, bif w57 script s1 then mdel s1.cm (w58 script s1) else w31 s1, bif w57 script s1 then bdel s1.cm s1.cbs (w58 script s1) else s1.cbs, bif w57 script s1 then s1.cclk else s1.cclk, s1.sm, s1.sbs, s1.sclk⟩, ?_, rfl, rfl, rfl, rfl, rfl, rfl, rfl, rfl, rfl, rfl, rfl, rfl, rfl, ⟨rfl, rfl, rfl, rfl, rfl⟩⟩
    exact hI.stay
  -- a step older
  · have e62 : w62 script s1 = s1.m := rfl
    have e63 : w63 script s1 = s1.bs := rfl
    have e64 : w64 script s1 = s1.clk := rfl
    refine ⟨⟨[], s1.m⟩, ⟨List.nodup_nil, fun j hj => (nomatch hj), rfl⟩, (by and_intros <;> rfl), fun s2 hi hn2 _ hb2 _ _ _ _ _ _ _ _ _ _ _ _ => ⟨?_, fun _ _ => ?_, fun j1 hj1 => ?_⟩⟩
    · by_cases h : s1.bs = []
      · exact .inr (.inl h)
      · obtain ⟨b, hb⟩ := List.exists_mem_of_ne_nil _ h
        exact .inr (.inr ⟨b, hb, hbs.2.2 b hb⟩)
    · refine ⟨⟨s1.i, s1.here, s1.last, s2.m, s1.bs, s1.clk, s1.cm, s1.cbs, s1.cclk, s1.sm, s1.sbs, s1.sclk⟩, ?_, rfl, rfl, rfl, rfl, rfl, rfl, rfl, rfl, rfl, rfl, rfl, rfl, rfl, ⟨rfl, rfl, rfl, rfl, rfl⟩⟩
      exact hI.older hi.2.2
    · obtain ⟨d1, d2, d3⟩ := hi
      rw [e62] at d2 d3
      have hsl := strip_len d3
      have hbl : s1.bs.length = s1.m.length := hbs.1
      have hj : j1 < s2.m.length := hj1.1
      have hjm : j1 < s1.m.length := by omega
      have hjb : j1 < s1.bs.length := by omega
      have e69 : w69 script s1 s2 j1 = bornAt s1.bs j1 := lastT_app _ _
      have e71 : w71 script s1 s2 j1 = j1 := by unfold w71; rw [e69, e63]; exact idx_at hbs.2.1 hjb
      have hnj : j1 ∉ s2.js := fun h => hj1.2 (List.mem_map.2 ⟨j1, h, rfl⟩)
      have hnd' : (s2.js ++ [j1]).Nodup := by
        rw [List.nodup_append]
        refine ⟨d1, by simp, fun a ha b hb e => ?_⟩
        rw [List.mem_singleton] at hb
        exact hnj (by rw [← hb, ← e]; exact ha)
      have hlt' : ∀ j, j ∈ s2.js ++ [j1] → j < s1.m.length := fun j h => by
        rcases List.mem_append.1 h with h | h
        · exact d2 j h
        · rw [List.mem_singleton] at h; omega
      have hll := nodup_len hnd' (l' := List.range s1.m.length) fun a ha => List.mem_range.2 (hlt' a ha)
      rw [List.length_append, List.length_range] at hll
      simp only [List.length_cons, List.length_nil] at hll
      rw [e71]
      refine ⟨⟨rfl, by simp [w68], by rw [e69, e63, born_at hjb]; exact List.getElem_mem _⟩, ⟨s2.js ++ [j1], mput s2.m (keyM s2.m j1) ((valM s2.m j1).fst, (valM s2.m j1).snd.fst, (valM s2.m j1).snd.snd.fst, (valM s2.m j1).snd.snd.snd.fst, IntKind.i64.wrap ((valM s2.m j1).snd.snd.snd.snd + (1 : Int)))⟩, ⟨hnd', hlt', ?_⟩, ?_, rfl, bput_old (key_some hj), cput_old (key_some hj), rfl, rfl, rfl, rfl, rfl, rfl, rfl, rfl, rfl, rfl, rfl, rfl, rfl, ?_, rfl⟩
      · exact Eq.trans (strip_put (x := ((valM s2.m j1).fst, (valM s2.m j1).snd.fst, (valM s2.m j1).snd.snd.fst, (valM s2.m j1).snd.snd.snd.fst, IntKind.i64.wrap ((valM s2.m j1).snd.snd.snd.snd + (1 : Int)))) hn2 hj rfl) d3
      · show s1.m.length - (s2.js ++ [j1]).length < s1.m.length - s2.js.length
        rw [List.length_append]; simp only [List.length_cons, List.length_nil]; omega
      · show List.map _ s2.js ++ [_] = List.map _ (s2.js ++ [j1])
        rw [List.map_append]; rfl
  -- taken
  · refine ⟨by omega, ⟨fun h73 => ?_, fun h73 => ?_⟩, fun l hl => ?_⟩
    · refine ⟨⟨w75 s1, s1.here, s1.last, w76 script s1, w77 script s1, w78 script s1, s1.cm, s1.cbs, s1.cclk, s1.sm, s1.sbs, s1.sclk⟩, ?_, ?_, rfl, rfl, rfl, rfl, rfl, rfl, rfl, rfl, rfl, rfl, rfl, rfl, rfl⟩
      · have e76 : w76 script s1 = s1.m := by
          unfold w76
          cases h72 : w72 script s1 with
          | false => rfl
          | true =>
            have h := of_decide_eq_true h73
            rw [h72] at h
            have e48 : w48 script s1 = false := decide_eq_false h
            show w51 script s1 = s1.m
            unfold w51; rw [e48]; rfl
        show 0 ≤ w75 s1 ∧ w75 s1 ≤ 150 ∧ Inv (w75 s1) s1.here s1.last (w76 script s1) s1.sm
        rw [e76, e75]
        exact ⟨by omega, by omega, hI.stay⟩
      · show ((200 : Int) - w75 s1).toNat < w74 s1
        rw [e75]; exact hmu
    · have h := of_decide_eq_false (nt h73)
      rw [Decidable.not_not] at h
      have e72 : w72 script s1 = true := by
        cases h72 : w72 script s1 with
        | true => rfl
        | false =>
          rw [h72] at h
          have h : (100 : Int) = 0 := h
          exact absurd h (by decide)
      rw [e72] at h
      have e48 : w48 script s1 = true := decide_eq_true h
      have e35 : w35 script s1 = true := by
        cases h35 : w35 script s1 with
        | true => rfl
        | false => unfold w36 at h; rw [h35] at h; exact absurd h (by decide)
      have hk : (mget s1.m (rowP script s1.i.toNat).snd.snd.snd.fst).isSome = true := by
        have h35 := e35
        unfold w35 at h35; rwa [Bool.not_not] at h35
      obtain ⟨f0, f1, f2, f3⟩ := hF.same hk w43
      have e39 : w39 script s1 = false := by unfold w39; rw [hF.sent hk]; rfl
      have e79 : w79 script s1 = w44 script s1 := by unfold w79; rw [e72]; rfl
      have e80 : w80 script s1 = w45 script s1 := by unfold w80; rw [e72]; rfl
      have e44 : w44 script s1 = ((mget s1.sm (rowP script s1.i.toNat).snd.snd.snd.fst).getD w43).snd.fst := by unfold w44; rw [e35, f1]; rfl
      have e45 : w45 script s1 = ((mget s1.sm (rowP script s1.i.toNat).snd.snd.snd.fst).getD w43).snd.snd.fst := by unfold w45; rw [e35, f2]; rfl
      have e46 : w46 script s1 = ((mget s1.sm (rowP script s1.i.toNat).snd.snd.snd.fst).getD w43).snd.snd.snd.fst := by unfold w46; rw [e35, f3]; rfl
      refine ⟨fun h81 => ?_, fun _ => ⟨⟨s1.i, _, _, _, _, _, _, _, _, _, _, _⟩, ?_, rfl, rfl, rfl, rfl, rfl, rfl, rfl, rfl, rfl, rfl, rfl, rfl, rfl, ⟨rfl, rfl, rfl, rfl, rfl⟩⟩⟩
      · exfalso
        have hc : decide ((0 : Int) < (mget s1.cm (min (w44 script s1) (w45 script s1), max (w44 script s1) (w45 script s1))).getD (0 : Int)) = false := by
          have h72 := e72
          unfold w72 at h72
          rw [e48, Bool.true_and] at h72
          exact nt h72
        unfold w81 at h81
        rw [e39, e79, e80, hc, e72, e35, cond_true, cond_true, cond_true, f0, ← e44, ← e45, e46] at h81
        simp at h81
      · show Inv (s1.i + 1) (w50 s1) s1.last (w76 script s1) (w54 script s1)
        rw [e50]
        unfold w76 w51
        rw [e72, e48]
        exact hI.del hmn hk
    · have hl : l.length ≤ 4096 := hl
      have e82 : w82 l = (l.length : Int) := rfl
      have e84 : w84 l = (l.length : Int) := u64b (by rw [e82]; omega) (by rw [e82]; omega)
      have hx : 0 ≤ (rowP script s1.i.toNat).snd.snd.snd.fst := by
        have hil : s1.i.toNat < script.length := by omega
        have hr : rowP script s1.i.toNat ∈ script := by
          have e : rowP script s1.i.toNat = script[s1.i.toNat] := getD_at (α := Step) hil _
          rw [e]; exact List.getElem_mem _
        have h := hsc.2 _ hr
        have h : IntKind.u64.has (rowP script s1.i.toNat).snd.snd.snd.fst := h.2.2.2.1
        exact h.1
      refine ⟨fun h83 => ?_, fun h93 => ?_, fun h93 => ?_⟩
      · have h0 : (0 : Int) < w82 l := of_decide_eq_true (Bool.and_eq_true_iff.1 h83).2
        have e85 : w85 script s1 l = (rowP script s1.i.toNat).snd.snd.snd.fst % (l.length : Int) := by
          unfold w85
          rw [e84, Int.tmod_eq_emod_of_nonneg hx]
        rw [e82] at h0
        rw [e84, e85, e82]
        exact ⟨by omega, Int.emod_nonneg _ (by omega), Int.emod_lt_of_pos _ h0⟩
      · refine ⟨⟨w75 s1, s1.here, s1.last, w94 script s1 l, w95 script s1 l, w96 script s1 l, s1.cm, s1.cbs, s1.cclk, s1.sm, s1.sbs, s1.sclk⟩, ?_, ?_, rfl, rfl, rfl, rfl, rfl, rfl, rfl, rfl, rfl, rfl, rfl, rfl, rfl⟩
        · have e76 : w94 script s1 l = s1.m := by
            unfold w94
            cases h72 : w92 script s1 l with
            | false => rfl
            | true =>
              have h := of_decide_eq_true h93
              rw [h72] at h
              have e48 : w89 script s1 l = false := decide_eq_false h
              rw [e48]; rfl
          show 0 ≤ w75 s1 ∧ w75 s1 ≤ 150 ∧ Inv (w75 s1) s1.here s1.last (w94 script s1 l) s1.sm
          rw [e76, e75]
          exact ⟨by omega, by omega, hI.stay⟩
        · show ((200 : Int) - w75 s1).toNat < w74 s1
          rw [e75]; exact hmu
      · have h := of_decide_eq_false (nt h93)
        rw [Decidable.not_not] at h
        have e72 : w92 script s1 l = true := by
          cases h72 : w92 script s1 l with
          | true => rfl
          | false =>
            rw [h72] at h
            have h : (100 : Int) = 0 := h
            exact absurd h (by decide)
        rw [e72] at h
        have e48 : w89 script s1 l = true := decide_eq_true h
        have e35 : w87 script s1 l = true := by
          cases h35 : w87 script s1 l with
          | true => rfl
          | false => unfold w88 at h; rw [h35] at h; exact absurd h (by decide)
        have hk : (mget s1.m (w86 script s1 l)).isSome = true := by
          have h35 := e35
          unfold w87 at h35; rwa [Bool.not_not] at h35
        obtain ⟨f0, f1, f2, f3⟩ := hF.same hk w43
        have e39 : (!(mget s1.sm (w86 script s1 l)).isSome) = false := by rw [hF.sent hk]; rfl
        have e79 : w97 script s1 l = w90 script s1 l := by unfold w97; rw [e72]; rfl
        have e80 : w98 script s1 l = w91 script s1 l := by unfold w98; rw [e72]; rfl
        have e44 : w90 script s1 l = ((mget s1.sm (w86 script s1 l)).getD w43).snd.fst := by unfold w90; rw [e35, f1]; rfl
        have e45 : w91 script s1 l = ((mget s1.sm (w86 script s1 l)).getD w43).snd.snd.fst := by unfold w91; rw [e35, f2]; rfl
        refine ⟨fun h81 => ?_, fun _ => ⟨⟨s1.i, _, _, _, _, _, _, _, _, _, _, _⟩, ?_, rfl, rfl, rfl, rfl, rfl, rfl, rfl, rfl, rfl, rfl, rfl, rfl, rfl, ⟨rfl, rfl, rfl, rfl, rfl⟩⟩⟩
        · exfalso
          have hc : decide ((0 : Int) < (mget s1.cm (min (w90 script s1 l) (w91 script s1 l), max (w90 script s1 l) (w91 script s1 l))).getD (0 : Int)) = false := by
            have h72 := e72
            unfold w92 at h72
            rw [e48, Bool.true_and] at h72
            exact nt h72
          unfold w99 at h81
          rw [e39, e79, e80, hc, e72, e35, cond_true, cond_true, cond_true, f0, ← e44, ← e45, ← f3] at h81
          simp at h81
        · show Inv (s1.i + 1) (w50 s1) s1.last (w94 script s1 l) (mdel s1.sm (w86 script s1 l))
          rw [e50]
          unfold w94
          rw [e72, e48]
          exact hI.del hmn hk
  -- after each
  · have h3 : Inv (s1.i + 1) s3.here s3.last s3.m s3.sm := h3
    obtain ⟨a, b, c, d, f⟩ := h3
    have e100 : (w100 s3 : Int) = (s3.m.length : Int) := rfl
    refine ⟨by omega, fun h => ?_, fun _ => ⟨⟨w75 s1, s3.here, s3.last, s3.m, s3.bs, s3.clk, s3.cm, s3.cbs, s3.cclk, s3.sm, s3.sbs, s3.sclk⟩, ?_, ?_, rfl, rfl, rfl, rfl, rfl, rfl, rfl, rfl, rfl, rfl, rfl, rfl, rfl⟩⟩
    · exfalso
      have h := of_decide_eq_true h
      omega
    · show 0 ≤ w75 s1 ∧ w75 s1 ≤ 150 ∧ Inv (w75 s1) s3.here s3.last s3.m s3.sm
      rw [e75]
      exact ⟨by omega, by omega, a, b, c, d, f⟩
    · show ((200 : Int) - w75 s1).toNat < w74 s1
      rw [e75]; exact hmu
end
end Go.Proofs.Ytdeoahhofhmgfaa.No
