/- A part of the proof that 'reevelaw10.NetFull' returns true for every input. No condition. -/
import Derived.Test.YtdeoahhofhmgfaaNfVc
import Derived.Test.YtdeoahhofhmgfaaAmMap
namespace Go.Proofs.Ytdeoahhofhmgfaa.NetFull
open Go.AM
theorem w64 {n : Int} (h1 : -9223372036854775808 ≤ n) (h2 : n ≤ 9223372036854775807) : IntKind.i64.wrap n = n := by
  simp only [IntKind.wrap, IntKind.bits, IntKind.signed, Bool.true_and, decide_eq_true_eq, Nat.reduceSub, Int.reducePow, ge_iff_le]
  split <;> omega
theorem wu64 {n : Int} (h1 : 0 ≤ n) (h2 : n ≤ 18446744073709551615) : IntKind.u64.wrap n = n := by
  simp only [IntKind.wrap, IntKind.bits, IntKind.signed, Bool.false_and, Nat.reduceSub, Int.reducePow, ge_iff_le]
  simp; omega
def Full (m : List (Int × Int × Int × Int × List UInt8 × Int)) (n : Int) : Prop := (m.length : Int) = n ∧ ∀ k : Int, (mget m k).isSome = true ↔ 1 ≤ k ∧ k ≤ n
def invA (t : NS) : Prop := 0 ≤ t.i ∧ t.i ≤ 4096 ∧ t.last = t.i ∧ Full t.m t.i
def invB (t : NS) : Prop := 0 ≤ t.i ∧ t.last = 4096 ∧ Full t.m 4096

set_option maxHeartbeats 0 in
theorem owed_ok (src dst more : Int) (s : List UInt8) (h1 : IntKind.u8.has src) (h2 : IntKind.u8.has dst) (h3 : IntKind.u8.has more) : owed src dst more s invA invB := by
  have h1' : 0 ≤ src ∧ src ≤ 255 := by simpa [IntKind.has, IntKind.min, IntKind.max, IntKind.bits, IntKind.signed] using h1
  have h2' : 0 ≤ dst ∧ dst ≤ 255 := by simpa [IntKind.has, IntKind.min, IntKind.max, IntKind.bits, IntKind.signed] using h2
  have h3' : 0 ≤ more ∧ more ≤ 255 := by simpa [IntKind.has, IntKind.min, IntKind.max, IntKind.bits, IntKind.signed] using h3
  have e1 : IntKind.i64.wrap src = src := w64 (by omega) (by omega)
  have e2 : IntKind.i64.wrap dst = dst := w64 (by omega) (by omega)
  have e3 : IntKind.i64.wrap more = more := w64 (by omega) (by omega)
  have a1 : adr src = true := by simp only [adr, Bool.and_eq_true, decide_eq_true_eq]; omega
  have a2 : adr dst = true := by simp only [adr, Bool.and_eq_true, decide_eq_true_eq]; omega
  unfold owed
  simp only [e1, e2, e3, a1, a2, Bool.not_true, Bool.false_eq_true, false_implies, true_and, and_true, forall_const, implies_true]
  intro hs
  simp only [decide_eq_false_iff_not] at hs
  have d1 : decide ((131072 : Int) < (s.length : Int)) = false := by simp only [decide_eq_false_iff_not]; omega
  simp only [d1, Bool.false_eq_true, false_implies, true_and, forall_const]
  refine ⟨⟨0, 0, []⟩, ?_, by simp, ?_⟩
  · refine ⟨by simp, by simp, rfl, by simp, fun k => ?_⟩
    have : (mget ([] : List (Int × Int × Int × Int × List UInt8 × Int)) k).isSome = false := rfl
    rw [this]
    simp; omega
  · intro (t : NS) hinv g1 g2 g3 hlen g4 g5 hnd g6
    clear g1 g2 g3 g4 g5 g6
    obtain ⟨i, last, m⟩ := t
    dsimp only at hnd ⊢
    simp only [invA, Full] at hinv
    obtain ⟨i0, i1, rfl, hl, hk⟩ := hinv
    refine ⟨fun hi => ?_, fun hi => ?_⟩
    · simp only [decide_eq_true_eq] at hi
      have f1 : IntKind.i64.wrap (last + 1) = last + 1 := w64 (by omega) (by omega)
      have f2 : IntKind.u64.wrap (last + 1) = last + 1 := wu64 (by omega) (by omega)
      have hno : (mget m (last + 1)).isSome = false := by
        cases hh : (mget m (last + 1)).isSome with
        | false => rfl
        | true => have := (hk (last + 1)).1 hh; omega
      refine ⟨by omega, fun h => by simp only [decide_eq_true_eq] at h; omega, fun _ => ⟨⟨last + 1, last + 1, mput m (last + 1) (last + 1, src, dst, s, 0)⟩, ⟨?_, ?_, ?_, ?_, ?_⟩, ?_, f1, f2, by rw [f2]⟩⟩
      · show 0 ≤ last + 1; omega
      · show last + 1 ≤ 4096; omega
      · rfl
      · show ((mput m (last + 1) _).length : Int) = last + 1
        rw [length_mput_new hno]; omega
      · intro k
        show (mget (mput m (last + 1) _) k).isSome = true ↔ 1 ≤ k ∧ k ≤ last + 1
        rw [isSome_mput, hk k]
        constructor
        · rintro (rfl | h)
          · exact ⟨by omega, by omega⟩
          · omega
        · intro h
          by_cases e : k = last + 1
          · exact .inl e
          · exact .inr ⟨h.1, by omega⟩
      · show 4096 - (last + 1).toNat < 4096 - last.toNat
        omega
    · simp only [decide_eq_false_iff_not] at hi
      obtain rfl : last = 4096 := by omega
      refine ⟨⟨0, 4096, m⟩, ⟨by simp, rfl, hl, hk⟩, by simp, ?_⟩
      intro (t : NS) hinv g1 g2 g3 g4 g5 g6 hnd g7
      clear g1 g2 g3 g4 g5 g6 g7
      obtain ⟨i, last, m⟩ := t
      simp only [invB, Full] at hinv
      obtain ⟨i0, rfl, hl, hk⟩ := hinv
      dsimp only at hnd ⊢
      have y1 : (mget m 1).isSome = true := (hk 1).2 (by omega)
      have y2 : (mget m 2).isSome = true := (hk 2).2 (by omega)
      have l1 := length_mdel hnd y1
      have y3 : (mget (mdel m 1) 2).isSome = true := isSome_mdel.2 ⟨by decide, y2⟩
      have y4 : (mget (mdel m 1) 4097).isSome = false := by
        cases hh : (mget (mdel m 1) 4097).isSome with
        | false => rfl
        | true => have := (hk 4097).1 (isSome_mdel.1 hh).2; omega
      refine ⟨fun hi => ?_, fun hi => ?_⟩
      · simp only [decide_eq_true_eq] at hi
        have f1 : IntKind.u64.wrap i = i := wu64 (by omega) (by omega)
        have f2 : IntKind.u64.wrap (i + 1) = i + 1 := wu64 (by omega) (by omega)
        have f3 : IntKind.i64.wrap (i + 1) = i + 1 := w64 (by omega) (by omega)
        have y5 : (mget m (i + 1)).isSome = true := (hk (i + 1)).2 (by omega)
        have dd : decide ((4096 : Int) ≤ (m.length : Int)) = true := by simp only [decide_eq_true_eq]; omega
        refine ⟨by omega, fun _ => ⟨fun h => ?_, fun _ => ⟨by omega, fun _ => ⟨⟨i + 1, 4096, m⟩, ⟨?_, rfl, hl, hk⟩, ?_, f3, rfl, rfl⟩, fun h => ?_⟩⟩, fun h => ?_⟩
        · rw [f1, f2] at h; rw [show (mget m (i + 1)).isSome = true from y5] at h; cases h
        · show 0 ≤ i + 1; omega
        · show 256 - (i + 1).toNat < 256 - i.toNat; omega
        · rw [dd] at h; cases h
        · rw [dd] at h; cases h
      · have f2 : IntKind.u64.wrap (4096 + 1) = 4097 := by decide
        refine ⟨fun h => ?_, fun _ => ⟨fun h => ?_, fun _ => ⟨by omega, fun h => ?_, fun _ => ⟨?_, fun h => ?_⟩⟩⟩⟩
        · rw [show (mget m 1).isSome = true from y1] at h; cases h
        · rw [show (mget (mdel m 1) 2).isSome = true from y3] at h; cases h
        · simp only [decide_eq_true_eq] at h
          have : ((mdel m 1).length : Int) = 4095 := by omega
          rw [show ((mdel m 1).length : Int) = 4095 from this] at h
          omega
        · rw [f2, length_mput_new y4]; omega
        · rw [f2, length_mput_new y4] at h
          simp only [decide_eq_false_iff_not] at h
          apply h
          omega
end Go.Proofs.Ytdeoahhofhmgfaa.NetFull
