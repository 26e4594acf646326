/- A part of the proof that 'reevelaw26.LeasePlays' returns true for every input: until when a holder is valid, as a summary. No condition. -/
import Derived.Test.YtdeoahhofhmgfaaUtPf
import Derived.Test.YtdeoahhofhmgfaaAmJ
import Derived.Test.YtdeoahhofhmgfaaLpShelf
namespace Go.Proofs.Ytdeoahhofhmgfaa.LeasePlays
open Go.AM
theorem mixed : Try.prog.follows .mixedOrders = true := by kernel_rfl
def noS : SumP := fun _ _ _ => none
def noL : LTab := fun _ _ _ _ => none
theorem noS_ok {P : Program} {B : Nat} : SumPOk P B noS := fun _ _ _ _ h => by cases h
def works52T : Prop := ((true = true ∧ true = true) ∧ true = true ∧ true = true) ∧ (true = true ∧ true = true) ∧ true = true ∧ true = true
theorem works52E : works52T = vTop Try.prog noS noL 20000 52 [] H0 (fun v _ => isB v true) := by kernel_rfl
theorem works52 {B : Nat} : WF Try.prog B 52 [] H0 (fun v _ => isB v true) := WF.owe (Owe.of works52E ⟨⟨⟨rfl, rfl⟩, rfl, rfl⟩, ⟨rfl, rfl⟩, rfl, rfl⟩) mixed noS_ok
theorem works_ok {B : Nat} {H : Heap} : WF Try.prog B 52 [] H (fun v H' => v = .bool true ∧ H' = H) :=
  WF.reval (WF.pureB (b := true) works52 rfl) fun v H' ρ x hv hr => ⟨.bool true, ⟨rfl, hv.2⟩, by rw [hv.1] at hr; simp only [Rel] at hr ⊢; exact hr⟩
theorem S1_ok {B : Nat} : SumPOk Try.prog B S1 := by
  intro f args H s h
  unfold S1 at h
  split at h
  · cases h; exact works_ok
  · rename_i i
    split at h
    · rename_i rows ty hi
      cases h
      intro hob
      exact WF.sort hi hob Try.slices_Sort_int64 Try.slices_Sort_int64_none
    · cases h
  · cases h

theorem asX_rel {ρ : Env} {v : AV} {k : IntKind} {n : Int} {x : Value} (h : v.asX = some (k, n)) (hr : Rel ρ v x) : Rel ρ (.sI k n) x := by
  unfold AV.asX at h
  split at h
  · rename_i k' n'
    cases hb : hasB k' n' with
    | false => rw [hb] at h; cases h
    | true =>
      rw [hb, cond_true] at h; cases h
      simp only [Rel] at hr ⊢
      refine ⟨hr, ?_⟩
      unfold hasB at hb
      simp only [Bool.and_eq_true, decide_eq_true_eq] at hb
      exact hb
  · cases h; exact hr
  · cases h
theorem asB_rel {ρ : Env} {v : AV} {b : Bool} {x : Value} (h : v.asB = some b) (hr : Rel ρ v x) : Rel ρ (.sB b) x := by
  unfold AV.asB at h
  split at h
  · cases h; simp only [Rel] at hr ⊢; exact hr
  · cases h; exact hr
  · cases h

/-- Until, at a small heap. -/
theorem until_small {B : Nat} {bR bN n len bound : Int} {m : Mp} {bs : List Nat} {clk : Nat} (hm : m.length ≤ 7) (h1 : 1 ≤ n) (h7 : n ≤ 7) :
    WF Try.prog B 59 [.ptr 0 0] (hU bR bN n len bound m bs clk) fun v H' => v = .tup [.sI .i64 (untilU m n len bound), .sB (untilB m n)] ∧ H'.get 0 = (hU bR bN n len bound m bs clk).get 0 ∧ H'.get 1 = (hU bR bN n len bound m bs clk).get 1 := by
  have h := WF.owe (B := B) (Owe.of (owed_eq bR bN n len bound m bs clk (untilU m n len bound) (untilB m n) invV) (until_ok hm h1 h7)) mixed S1_ok
  refine WF.reval h fun v H' ρ x hv hr => ?_
  unfold uPost at hv
  split at hv
  · rename_i a b
    split at hv
    · rename_i u c hx hb
      obtain ⟨rfl, rfl, e1, e2⟩ := hv
      refine ⟨_, ⟨rfl, e1, e2⟩, ?_⟩
      simp only [Rel, RelL] at hr ⊢
      obtain ⟨ys, rfl, y, ys', e, r1, y2, ys2, e3, r2, e4⟩ := hr
      exact ⟨ys, rfl, y, ys', e, asX_rel hx r1, y2, ys2, e3, asB_rel hb r2, e4⟩
    · exact hv.elim
  · exact hv.elim

def S2 : SumP := fun f args H => match f, args with
  | 59, [.ptr i 0] => match H.get i with
    | some (.cells false 6 [.sI .u64 bR, .sI .i64 bN, .sI .i64 n, .sI .i64 len, .sI .i64 bound, .map mi] none) => match H.get mi with
      | some (.smap false false (.one (.int .i64)) (.one (.int .i64)) m _ _) => some (.fn (some (List.length (α := Int × Int) m ≤ 7 ∧ 1 ≤ n ∧ n ≤ 7)) (.tup [.sI .i64 (untilU m n len bound), .sB (untilB m n)]) H)
      | _ => none
    | _ => none
  | f, args => S1 f args H

theorem until_any {B : Nat} {H : Heap} {i mi : Nat} {bR bN n len bound : Int} {m : Mp} {bs : List Nat} {clk : Nat} (h1 : H.get i = some (.cells false 6 [.sI .u64 bR, .sI .i64 bN, .sI .i64 n, .sI .i64 len, .sI .i64 bound, .map mi] none))
    (h2 : H.get mi = some (.smap false false iR iR m bs clk)) (hm : m.length ≤ 7) (hn1 : 1 ≤ n) (hn7 : n ≤ 7) :
    WF Try.prog B 59 [.ptr i 0] H fun v H' => v = .tup [.sI .i64 (untilU m n len bound), .sB (untilB m n)] ∧ H' = H := by
  have hne : i ≠ mi := fun e => by rw [e, h2] at h1; cases h1
  have hs : isSame (sameRen 0 [i, mi]) 0 i = true := by simp [isSame, sameRen, lk, Nat.beq_refl]
  have hs1 : isSame (sameRen 0 [i, mi]) 1 mi = true := by
    simp [isSame, sameRen, lk, Nat.beq_refl, Nat.beq]
  refine WF.lookAt (Q := fun v => v = .tup [.sI .i64 (untilU m n len bound), .sB (untilB m n)]) ((until_small (bR := bR) (bN := bN) (len := len) (bound := bound) (bs := bs) (clk := clk) hm hn1 hn7).mono fun v H' ⟨e, e0, e1⟩ => ⟨fun k hk => ?_, by rw [e]; rfl, e⟩) [i, mi] (by simp [hne]) rfl rfl rfl (qs := []) ?_ trivial ?_ ?_
  · have hk : k < 2 := hk
    match k, hk with
    | 0, _ => exact e0
    | 1, _ => exact e1
  · simp [mVL, mV, hs, chkB, andP, Nat.beq_refl]
  · intro q j hq
    match q, hq with
    | 0, hq =>
      have : i = j := by simpa using hq
      subst this
      rw [h1]; rfl
    | 1, hq =>
      have : mi = j := by simpa using hq
      subst this
      rw [h2]; rfl
  · intro q o hq ho
    match q, hq, ho with
    | 0, _, ho =>
      have : AObj.cells false 6 [.sI .u64 bR, .sI .i64 bN, .sI .i64 n, .sI .i64 len, .sI .i64 bound, .map 1] none = o := Option.some.inj ho
      subst this
      refine ⟨i, [bR = bR, bN = bN, n = n, len = len, bound = bound], rfl, ?_, ⟨rfl, rfl, rfl, rfl, rfl, trivial⟩⟩
      have hmap : mV (sameRen 0 [i, mi]) (.map 1) (.map mi) = some [] := by simp [mV, hs1, chkB]
      rw [h1]
      have e (cs cs' : List AV) : mO (sameRen 0 [i, mi]) (.cells false 6 cs none) (.same i) (some (.cells false 6 cs' none)) = andP (some []) (mVL (sameRen 0 [i, mi]) cs cs') := rfl
      have eu (a b : Int) : mV (sameRen 0 [i, mi]) (.sI .u64 a) (.sI .u64 b) = some [b = a] := rfl
      have ei (a b : Int) : mV (sameRen 0 [i, mi]) (.sI .i64 a) (.sI .i64 b) = some [b = a] := rfl
      have ec (a b : AV) (x y : List AV) : mVL (sameRen 0 [i, mi]) (a :: x) (b :: y) = andP (mV (sameRen 0 [i, mi]) a b) (mVL (sameRen 0 [i, mi]) x y) := rfl
      have en : mVL (sameRen 0 [i, mi]) [] [] = some [] := rfl
      rw [e, ec, eu, ec, ei, ec, ei, ec, ei, ec, ei, ec, hmap, en]; rfl
    | 1, _, ho =>
      have : AObj.smap false false iR iR m bs clk = o := Option.some.inj ho
      subst this
      exact ⟨mi, [m = m, bs = bs, clk = clk], rfl, by rw [h2]; rfl, ⟨rfl, rfl, rfl, trivial⟩⟩

theorem S2_ok {B : Nat} : SumPOk Try.prog B S2 := by
  intro f args H s h
  unfold S2 at h
  split at h
  · rename_i i
    split at h
    · rename_i bR bN n len bound mi h1
      split at h
      · rename_i m bs clk h2
        cases h
        intro ⟨hm, hn1, hn7⟩
        exact until_any h1 h2 hm hn1 hn7
      · cases h
    · cases h
  · exact S1_ok _ _ _ _ h
end Go.Proofs.Ytdeoahhofhmgfaa.LeasePlays
