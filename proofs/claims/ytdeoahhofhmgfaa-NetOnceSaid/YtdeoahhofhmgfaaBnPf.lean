/- A part of the proofs about sorting numbers (uint64): the next power of two. No condition. -/
import Derived.Test.YtdeoahhofhmgfaaBnVc
import Derived.Test.YtdeoahhofhmgfaaSzP
namespace Go.Proofs.Ytdeoahhofhmgfaa.Sz.Bn
open Go.AM
noncomputable section
/-- How many bits a byte has. -/
def tb (z : Nat) : Nat := ([(0 : UInt8), (1 : UInt8), (2 : UInt8), (2 : UInt8), (3 : UInt8), (3 : UInt8), (3 : UInt8), (3 : UInt8), (4 : UInt8), (4 : UInt8), (4 : UInt8), (4 : UInt8), (4 : UInt8), (4 : UInt8), (4 : UInt8), (4 : UInt8), (5 : UInt8), (5 : UInt8), (5 : UInt8), (5 : UInt8), (5 : UInt8), (5 : UInt8), (5 : UInt8), (5 : UInt8), (5 : UInt8), (5 : UInt8), (5 : UInt8), (5 : UInt8), (5 : UInt8), (5 : UInt8), (5 : UInt8), (5 : UInt8), (6 : UInt8), (6 : UInt8), (6 : UInt8), (6 : UInt8), (6 : UInt8), (6 : UInt8), (6 : UInt8), (6 : UInt8), (6 : UInt8), (6 : UInt8), (6 : UInt8), (6 : UInt8), (6 : UInt8), (6 : UInt8), (6 : UInt8), (6 : UInt8), (6 : UInt8), (6 : UInt8), (6 : UInt8), (6 : UInt8), (6 : UInt8), (6 : UInt8), (6 : UInt8), (6 : UInt8), (6 : UInt8), (6 : UInt8), (6 : UInt8), (6 : UInt8), (6 : UInt8), (6 : UInt8), (6 : UInt8), (6 : UInt8), (7 : UInt8), (7 : UInt8), (7 : UInt8), (7 : UInt8), (7 : UInt8), (7 : UInt8), (7 : UInt8), (7 : UInt8), (7 : UInt8), (7 : UInt8), (7 : UInt8), (7 : UInt8), (7 : UInt8), (7 : UInt8), (7 : UInt8), (7 : UInt8), (7 : UInt8), (7 : UInt8), (7 : UInt8), (7 : UInt8), (7 : UInt8), (7 : UInt8), (7 : UInt8), (7 : UInt8), (7 : UInt8), (7 : UInt8), (7 : UInt8), (7 : UInt8), (7 : UInt8), (7 : UInt8), (7 : UInt8), (7 : UInt8), (7 : UInt8), (7 : UInt8), (7 : UInt8), (7 : UInt8), (7 : UInt8), (7 : UInt8), (7 : UInt8), (7 : UInt8), (7 : UInt8), (7 : UInt8), (7 : UInt8), (7 : UInt8), (7 : UInt8), (7 : UInt8), (7 : UInt8), (7 : UInt8), (7 : UInt8), (7 : UInt8), (7 : UInt8), (7 : UInt8), (7 : UInt8), (7 : UInt8), (7 : UInt8), (7 : UInt8), (7 : UInt8), (7 : UInt8), (7 : UInt8), (7 : UInt8), (7 : UInt8), (7 : UInt8), (7 : UInt8), (7 : UInt8), (8 : UInt8), (8 : UInt8), (8 : UInt8), (8 : UInt8), (8 : UInt8), (8 : UInt8), (8 : UInt8), (8 : UInt8), (8 : UInt8), (8 : UInt8), (8 : UInt8), (8 : UInt8), (8 : UInt8), (8 : UInt8), (8 : UInt8), (8 : UInt8), (8 : UInt8), (8 : UInt8), (8 : UInt8), (8 : UInt8), (8 : UInt8), (8 : UInt8), (8 : UInt8), (8 : UInt8), (8 : UInt8), (8 : UInt8), (8 : UInt8), (8 : UInt8), (8 : UInt8), (8 : UInt8), (8 : UInt8), (8 : UInt8), (8 : UInt8), (8 : UInt8), (8 : UInt8), (8 : UInt8), (8 : UInt8), (8 : UInt8), (8 : UInt8), (8 : UInt8), (8 : UInt8), (8 : UInt8), (8 : UInt8), (8 : UInt8), (8 : UInt8), (8 : UInt8), (8 : UInt8), (8 : UInt8), (8 : UInt8), (8 : UInt8), (8 : UInt8), (8 : UInt8), (8 : UInt8), (8 : UInt8), (8 : UInt8), (8 : UInt8), (8 : UInt8), (8 : UInt8), (8 : UInt8), (8 : UInt8), (8 : UInt8), (8 : UInt8), (8 : UInt8), (8 : UInt8), (8 : UInt8), (8 : UInt8), (8 : UInt8), (8 : UInt8), (8 : UInt8), (8 : UInt8), (8 : UInt8), (8 : UInt8), (8 : UInt8), (8 : UInt8), (8 : UInt8), (8 : UInt8), (8 : UInt8), (8 : UInt8), (8 : UInt8), (8 : UInt8), (8 : UInt8), (8 : UInt8), (8 : UInt8), (8 : UInt8), (8 : UInt8), (8 : UInt8), (8 : UInt8), (8 : UInt8), (8 : UInt8), (8 : UInt8), (8 : UInt8), (8 : UInt8), (8 : UInt8), (8 : UInt8), (8 : UInt8), (8 : UInt8), (8 : UInt8), (8 : UInt8), (8 : UInt8), (8 : UInt8), (8 : UInt8), (8 : UInt8), (8 : UInt8), (8 : UInt8), (8 : UInt8), (8 : UInt8), (8 : UInt8), (8 : UInt8), (8 : UInt8), (8 : UInt8), (8 : UInt8), (8 : UInt8), (8 : UInt8), (8 : UInt8), (8 : UInt8), (8 : UInt8), (8 : UInt8), (8 : UInt8), (8 : UInt8), (8 : UInt8), (8 : UInt8), (8 : UInt8), (8 : UInt8), (8 : UInt8), (8 : UInt8), (8 : UInt8), (8 : UInt8), (8 : UInt8)].getD z (0 : UInt8)).toNat
def ck (z : Nat) : Bool := Nat.beq z 0 || (Nat.blt z (2 ^ tb z) && Nat.ble (2 ^ tb z) (2 * z) && Nat.ble (tb z) 8)
theorem ckAll : (List.range 256).all ck = true := by decide +kernel
theorem tab (z : Nat) (h : z < 256) (h1 : 1 ≤ z) : z < 2 ^ tb z ∧ 2 ^ tb z ≤ 2 * z ∧ tb z ≤ 8 := by
  have := List.all_eq_true.1 ckAll z (List.mem_range.2 h)
  unfold ck at this
  simp only [Bool.or_eq_true, Bool.and_eq_true, Nat.blt_eq, Nat.ble_eq] at this
  rcases this with h0 | ⟨⟨a, b⟩, c⟩
  · have := Nat.eq_of_beq_eq_true h0; omega
  · exact ⟨a, b, c⟩
theorem fd {x d : Int} (hd : 0 ≤ d) : x.fdiv d = x / d := Int.fdiv_eq_ediv_of_nonneg _ hd
theorem wu8 {n : Int} (h1 : 0 ≤ n) (h2 : n < 256) : IntKind.u8.wrap n = n := by
  simp only [IntKind.wrap, IntKind.bits, IntKind.signed, Bool.false_and, Int.reducePow]
  split
  · contradiction
  · omega
theorem wu64 {n : Int} (h1 : 0 ≤ n) (h2 : n < 18446744073709551616) : IntKind.u64.wrap n = n := by
  simp only [IntKind.wrap, IntKind.bits, IntKind.signed, Bool.false_and, Int.reducePow]
  split
  · contradiction
  · omega
theorem step (x z P d : Int) (n t : Nat) (hP : (2 : Int) ^ t = P) (hn : (2 : Int) ^ n = d) (hx : x < 4611686018427387904) (hm : min ((n : Int) + (t : Int)).toNat 64 = n + t) (h : x < d * P ∧ d * P ≤ 2 * x) (h0 : 0 ≤ d * P) :
    x < IntKind.u64.wrap ((1 : Int) * (2 : Int) ^ min ((n : Int) + (t : Int)).toNat (64 : Nat)) ∧ IntKind.u64.wrap ((1 : Int) * (2 : Int) ^ min ((n : Int) + (t : Int)).toNat (64 : Nat)) ≤ 2 * x := by
  have e : (1 : Int) * (2 : Int) ^ min ((n : Int) + (t : Int)).toNat (64 : Nat) = d * P := by rw [hm, Int.pow_add, hP, hn, Int.one_mul]
  rw [e, wu64 h0 (by omega)]
  exact h
/-- The last step: z is what is left of x behind e bits. -/
theorem last {x z e : Int} {t : Nat} (hx : x < 4611686018427387904) (ht : z < (2 : Int) ^ t ∧ (2 : Int) ^ t ≤ 2 * z ∧ t ≤ 8)
    (h1 : 1 ≤ z) (h : (e = 0 ∧ z = x) ∨ (e = 8 ∧ z = x / 256) ∨ (e = 16 ∧ z = x / 65536) ∨ (e = 24 ∧ z = x / 65536 / 256) ∨ (e = 32 ∧ z = x / 4294967296) ∨ (e = 40 ∧ z = x / 4294967296 / 256) ∨ (e = 48 ∧ z = x / 4294967296 / 65536) ∨ (e = 56 ∧ z = x / 4294967296 / 65536 / 256)) :
    x < IntKind.u64.wrap ((1 : Int) * (2 : Int) ^ min (e + (t : Int)).toNat (64 : Nat)) ∧ IntKind.u64.wrap ((1 : Int) * (2 : Int) ^ min (e + (t : Int)).toNat (64 : Nat)) ≤ 2 * x := by
  obtain ⟨a, b, c⟩ := ht
  generalize hP : (2 : Int) ^ t = P at a b
  rcases h with ⟨rfl, h⟩ | ⟨rfl, h⟩ | ⟨rfl, h⟩ | ⟨rfl, h⟩ | ⟨rfl, h⟩ | ⟨rfl, h⟩ | ⟨rfl, h⟩ | ⟨rfl, h⟩
  · exact step x z P 1 0 t hP (by decide) hx (by omega) (by omega) (by omega)
  · exact step x z P 256 8 t hP (by decide) hx (by omega) (by omega) (by omega)
  · exact step x z P 65536 16 t hP (by decide) hx (by omega) (by omega) (by omega)
  · exact step x z P 16777216 24 t hP (by decide) hx (by omega) (by omega) (by omega)
  · exact step x z P 4294967296 32 t hP (by decide) hx (by omega) (by omega) (by omega)
  · exact step x z P 1099511627776 40 t hP (by decide) hx (by omega) (by omega) (by omega)
  · exact step x z P 281474976710656 48 t hP (by decide) hx (by omega) (by omega) (by omega)
  · exact step x z P 72057594037927936 56 t hP (by decide) hx (by omega) (by omega) (by omega)
theorem bn_ok {x : Int} (h1 : 1 ≤ x) (hx : x < 4611686018427387904) : owed x (fun m => x < m ∧ m ≤ 2 * x) := by
  have ex : IntKind.u64.wrap x = x := wu64 (by omega) (by omega)
  have fin : ∀ e : Int, 0 ≤ e → e ≤ 56 → 0 ≤ w5 x → w5 x < 256 → 1 ≤ w5 x → (bif w4 x then IntKind.i64.wrap (w7 x + (8 : Int)) else w7 x) = e →
      ((e = 0 ∧ w5 x = x) ∨ (e = 8 ∧ w5 x = x / 256) ∨ (e = 16 ∧ w5 x = x / 65536) ∨ (e = 24 ∧ w5 x = x / 65536 / 256) ∨ (e = 32 ∧ w5 x = x / 4294967296) ∨ (e = 40 ∧ w5 x = x / 4294967296 / 256) ∨ (e = 48 ∧ w5 x = x / 4294967296 / 65536) ∨ (e = 56 ∧ w5 x = x / 4294967296 / 65536 / 256)) →
      owed x (fun m => x < m ∧ m ≤ 2 * x) := fun e he0 he1 z0 z1 z2 he hz => by
    have ht := tab (w5 x).toNat (by omega) (by omega)
    generalize hT : tb (w5 x).toNat = t at ht
    have e8 : w8 x = e + (t : Int) := by
      show IntKind.i64.wrap ((bif w4 x then IntKind.i64.wrap (w7 x + (8 : Int)) else w7 x) + IntKind.i64.wrap ((tb (w5 x).toNat : Nat) : Int)) = _
      rw [he, hT, w64b (n := (t : Int)) (by omega) (by omega)]
      exact w64b (by omega) (by omega)
    refine ⟨⟨⟨fun _ => by decide, fun _ => by decide, fun _ => by decide, z0, z1⟩, by rw [e8]; omega⟩, ?_⟩
    rw [e8]
    have hp : (((2 ^ t : Nat)) : Int) = (2 : Int) ^ t := by simp
    exact last (z := w5 x) hx (by rw [← hp]; omega) z2 hz
  have e0 : w0 x = decide ((4294967296 : Int) ≤ x) := by unfold w0; rw [ex]
  have e1 : w1 x = bif w0 x then x / 4294967296 else x := by unfold w1; rw [ex, fd (by decide)]
  have e3 : w3 x = bif w2 x then w1 x / 65536 else w1 x := by unfold w3; rw [fd (by decide)]
  by_cases c0 : (4294967296 : Int) ≤ x
  · have f0 : w0 x = true := by rw [e0]; exact decide_eq_true c0
    rw [f0, cond_true] at e1
    have f6 : w6 x = 32 := by unfold w6; rw [f0]; rfl
    by_cases c2 : (65536 : Int) ≤ w1 x
    · have f2 : w2 x = true := decide_eq_true c2
      rw [f2, cond_true] at e3
      have f7 : w7 x = 48 := by unfold w7; rw [f2, f6]; rfl
      by_cases c4 : (256 : Int) ≤ w3 x
      · have f4 : w4 x = true := decide_eq_true c4
        have f5 : w5 x = w3 x / 256 := by unfold w5; rw [f4, cond_true, fd (by decide)]; exact wu8 (by omega) (by omega)
        exact fin 56 (by decide) (by decide) (by omega) (by omega) (by omega) (by rw [f4, f7]; rfl) (by omega)
      · have f4 : w4 x = false := decide_eq_false c4
        have f5 : w5 x = w3 x := by unfold w5; rw [f4, cond_false]; exact wu8 (by omega) (by omega)
        exact fin 48 (by decide) (by decide) (by omega) (by omega) (by omega) (by rw [f4, f7]; rfl) (by omega)
    · have f2 : w2 x = false := decide_eq_false c2
      rw [f2, cond_false] at e3
      have f7 : w7 x = 32 := by unfold w7; rw [f2, f6]; rfl
      by_cases c4 : (256 : Int) ≤ w3 x
      · have f4 : w4 x = true := decide_eq_true c4
        have f5 : w5 x = w3 x / 256 := by unfold w5; rw [f4, cond_true, fd (by decide)]; exact wu8 (by omega) (by omega)
        exact fin 40 (by decide) (by decide) (by omega) (by omega) (by omega) (by rw [f4, f7]; rfl) (by omega)
      · have f4 : w4 x = false := decide_eq_false c4
        have f5 : w5 x = w3 x := by unfold w5; rw [f4, cond_false]; exact wu8 (by omega) (by omega)
        exact fin 32 (by decide) (by decide) (by omega) (by omega) (by omega) (by rw [f4, f7]; rfl) (by omega)
  · have f0 : w0 x = false := by rw [e0]; exact decide_eq_false c0
    rw [f0, cond_false] at e1
    have f6 : w6 x = 0 := by unfold w6; rw [f0]; rfl
    by_cases c2 : (65536 : Int) ≤ w1 x
    · have f2 : w2 x = true := decide_eq_true c2
      rw [f2, cond_true] at e3
      have f7 : w7 x = 16 := by unfold w7; rw [f2, f6]; rfl
      by_cases c4 : (256 : Int) ≤ w3 x
      · have f4 : w4 x = true := decide_eq_true c4
        have f5 : w5 x = w3 x / 256 := by unfold w5; rw [f4, cond_true, fd (by decide)]; exact wu8 (by omega) (by omega)
        exact fin 24 (by decide) (by decide) (by omega) (by omega) (by omega) (by rw [f4, f7]; rfl) (by omega)
      · have f4 : w4 x = false := decide_eq_false c4
        have f5 : w5 x = w3 x := by unfold w5; rw [f4, cond_false]; exact wu8 (by omega) (by omega)
        exact fin 16 (by decide) (by decide) (by omega) (by omega) (by omega) (by rw [f4, f7]; rfl) (by omega)
    · have f2 : w2 x = false := decide_eq_false c2
      rw [f2, cond_false] at e3
      have f7 : w7 x = 0 := by unfold w7; rw [f2, f6]; rfl
      by_cases c4 : (256 : Int) ≤ w3 x
      · have f4 : w4 x = true := decide_eq_true c4
        have f5 : w5 x = w3 x / 256 := by unfold w5; rw [f4, cond_true, fd (by decide)]; exact wu8 (by omega) (by omega)
        exact fin 8 (by decide) (by decide) (by omega) (by omega) (by omega) (by rw [f4, f7]; rfl) (by omega)
      · have f4 : w4 x = false := decide_eq_false c4
        have f5 : w5 x = w3 x := by unfold w5; rw [f4, cond_false]; exact wu8 (by omega) (by omega)
        exact fin 0 (by decide) (by decide) (by omega) (by omega) (by omega) (by rw [f4, f7]; rfl) (by omega)
end
end Go.Proofs.Ytdeoahhofhmgfaa.Sz.Bn
