/- A part of the proof that 'reevelaw26.LeasePlays' returns true for every input: until when a holder is valid, in the document's words, as a summary. No condition. -/
import Derived.Test.YtdeoahhofhmgfaaUrPf
import Derived.Test.YtdeoahhofhmgfaaUtSum
namespace Go.Proofs.Ytdeoahhofhmgfaa.LeasePlays.Ref
open Go.AM
/-- Until, at a small heap. -/
theorem ref_small {B : Nat} {bR bN n len bound : Int} {has : List Bool} {tk : List Int} (hl1 : has.length = n.toNat) (hl2 : tk.length = n.toNat) (h1 : 1 ≤ n) (h7 : n ≤ 7) :
    WF Try.prog B 60 [.ptr 0 0] (hR bR bN n len bound has tk) fun v H' => v = .tup [.sI .i64 (untilU (mpOf has tk n) n len bound), .sB (untilB (mpOf has tk n) n)] ∧ H'.get 0 = (hR bR bN n len bound has tk).get 0 ∧ H'.get 1 = (hR bR bN n len bound has tk).get 1 ∧ H'.get 2 = (hR bR bN n len bound has tk).get 2 := by
  have h := WF.owe (B := B) (Owe.of (owed_eq bR bN n len bound has tk (untilU (mpOf has tk n) n len bound) (untilB (mpOf has tk n) n) invO invK invQ invP invR) (ref_ok hl1 hl2 h1 h7)) mixed S1_ok
  refine WF.reval h fun v H' ρ x hv hr => ?_
  unfold rPost at hv
  split at hv
  · rename_i a b
    split at hv
    · rename_i u c hx hb
      obtain ⟨rfl, rfl, e1, e2, e3⟩ := hv
      refine ⟨_, ⟨rfl, e1, e2, e3⟩, ?_⟩
      simp only [Rel, RelL] at hr ⊢
      obtain ⟨ys, rfl, y, ys', e, r1, y2, ys2, e3, r2, e4⟩ := hr
      exact ⟨ys, rfl, y, ys', e, asX_rel hx r1, y2, ys2, e3, asB_rel hb r2, e4⟩
    · exact hv.elim
  · exact hv.elim

theorem ref_any {B : Nat} {H : Heap} {i a c : Nat} {bR bN n len bound : Int} {has : List Bool} {tk : List Int} (h1 : H.get i = some (.cells false 7 [.sI .u64 bR, .sI .i64 bN, .sI .i64 n, .sI .i64 len, .sI .i64 bound, .sw a, .sw c] none))
    (h2 : H.get a = some (.seq bR1 has none)) (h3 : H.get c = some (.seq iR tk none)) (hl1 : has.length = n.toNat) (hl2 : tk.length = n.toNat) (hn1 : 1 ≤ n) (hn7 : n ≤ 7) :
    WF Try.prog B 60 [.ptr i 0] H fun v H' => v = .tup [.sI .i64 (untilU (mpOf has tk n) n len bound), .sB (untilB (mpOf has tk n) n)] ∧ H' = H := by
  have n1 : i ≠ a := fun e => by rw [e, h2] at h1; cases h1
  have n2 : i ≠ c := fun e => by rw [e, h3] at h1; cases h1
  have n3 : a ≠ c := fun e => by rw [e, h3] at h2; cases h2
  have hs : isSame (sameRen 0 [i, a, c]) 0 i = true := by simp [isSame, sameRen, lk, Nat.beq_refl]
  have hs1 : isSame (sameRen 0 [i, a, c]) 1 a = true := by
    simp [isSame, sameRen, lk, Nat.beq_refl, Nat.beq]
  have hs2 : isSame (sameRen 0 [i, a, c]) 2 c = true := by
    simp [isSame, sameRen, lk, Nat.beq_refl, Nat.beq]
  refine WF.lookAt (Q := fun v => v = .tup [.sI .i64 (untilU (mpOf has tk n) n len bound), .sB (untilB (mpOf has tk n) n)]) ((ref_small (bR := bR) (bN := bN) (len := len) (bound := bound) hl1 hl2 hn1 hn7).mono fun v H' ⟨e, e0, e1, e2⟩ => ⟨fun k hk => ?_, by rw [e]; rfl, e⟩) [i, a, c] (by simp [n1, n2, n3]) rfl rfl rfl (qs := []) ?_ trivial ?_ ?_
  · have hk : k < 3 := hk
    match k, hk with
    | 0, _ => exact e0
    | 1, _ => exact e1
    | 2, _ => exact e2
  · simp [mVL, mV, hs, chkB, andP, Nat.beq_refl]
  · intro q j hq
    match q, hq with
    | 0, hq =>
      have : i = j := by simpa using hq
      subst this
      rw [h1]; rfl
    | 1, hq =>
      have : a = j := by simpa using hq
      subst this
      rw [h2]; rfl
    | 2, hq =>
      have : c = j := by simpa using hq
      subst this
      rw [h3]; rfl
  · intro q o hq ho
    match q, hq, ho with
    | 0, _, ho =>
      have : AObj.cells false 7 [.sI .u64 bR, .sI .i64 bN, .sI .i64 n, .sI .i64 len, .sI .i64 bound, .sw 1, .sw 2] none = o := Option.some.inj ho
      subst this
      refine ⟨i, [bR = bR, bN = bN, n = n, len = len, bound = bound], rfl, ?_, ⟨rfl, rfl, rfl, rfl, rfl, trivial⟩⟩
      have hm1 : mV (sameRen 0 [i, a, c]) (.sw 1) (.sw a) = some [] := by simp [mV, hs1, chkB]
      have hm2 : mV (sameRen 0 [i, a, c]) (.sw 2) (.sw c) = some [] := by simp [mV, hs2, chkB]
      rw [h1]
      have e (cs cs' : List AV) : mO (sameRen 0 [i, a, c]) (.cells false 7 cs none) (.same i) (some (.cells false 7 cs' none)) = andP (some []) (mVL (sameRen 0 [i, a, c]) cs cs') := rfl
      have eu (x y : Int) : mV (sameRen 0 [i, a, c]) (.sI .u64 x) (.sI .u64 y) = some [y = x] := rfl
      have ei (x y : Int) : mV (sameRen 0 [i, a, c]) (.sI .i64 x) (.sI .i64 y) = some [y = x] := rfl
      have ec (x y : AV) (xs ys : List AV) : mVL (sameRen 0 [i, a, c]) (x :: xs) (y :: ys) = andP (mV (sameRen 0 [i, a, c]) x y) (mVL (sameRen 0 [i, a, c]) xs ys) := rfl
      have en : mVL (sameRen 0 [i, a, c]) [] [] = some [] := rfl
      rw [e, ec, eu, ec, ei, ec, ei, ec, ei, ec, ei, ec, hm1, ec, hm2, en]; rfl
    | 1, _, ho =>
      have : AObj.seq bR1 has none = o := Option.some.inj ho
      subst this
      exact ⟨a, [has = has], rfl, by rw [h2]; rfl, ⟨rfl, trivial⟩⟩
    | 2, _, ho =>
      have : AObj.seq iR tk none = o := Option.some.inj ho
      subst this
      exact ⟨c, [tk = tk], rfl, by rw [h3]; rfl, ⟨rfl, trivial⟩⟩

def S3 : SumP := fun f args H => match f, args with
  | 60, [.ptr i 0] => match H.get i with
    | some (.cells false 7 [.sI .u64 bR, .sI .i64 bN, .sI .i64 n, .sI .i64 len, .sI .i64 bound, .sw a, .sw c] none) => match H.get a with
      | some (.seq (.one .boo) has none) => match H.get c with
        | some (.seq (.one (.int .i64)) tk none) => some (.fn (some (List.length (α := Bool) has = n.toNat ∧ List.length (α := Int) tk = n.toNat ∧ 1 ≤ n ∧ n ≤ 7)) (.tup [.sI .i64 (untilU (mpOf has tk n) n len bound), .sB (untilB (mpOf has tk n) n)]) H)
        | _ => none
      | _ => none
    | _ => none
  | f, args => S2 f args H

theorem S3_ok {B : Nat} : SumPOk Try.prog B S3 := by
  intro f args H s h
  unfold S3 at h
  split at h
  · rename_i i
    split at h
    · rename_i bR bN n len bound a c h1
      split at h
      · rename_i has h2
        split at h
        · rename_i tk h3
          cases h
          intro ⟨hl1, hl2, hn1, hn7⟩
          exact ref_any h1 h2 h3 hl1 hl2 hn1 hn7
        · cases h
      · cases h
    · cases h
  · exact S2_ok _ _ _ _ h
end Go.Proofs.Ytdeoahhofhmgfaa.LeasePlays.Ref
