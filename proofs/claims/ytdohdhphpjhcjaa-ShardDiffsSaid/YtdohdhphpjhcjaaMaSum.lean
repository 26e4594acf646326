/- A part of the proofs about shards: which machines, as a summary. No condition. -/
import Derived.Test.YtdohdhphpjhcjaaMaPf
import Derived.Test.YtdohdhphpjhcjaaAmJ
import Derived.Test.YtdohdhphpjhcjaaShShelf
namespace Go.Proofs.Ytdohdhphpjhcjaa.Sh
open Go.AM
theorem mixed : Try.prog.follows .mixedOrders = true := by kernel_rfl
theorem noS_ok {P : Program} {B : Nat} : SumPOk P B noS := fun _ _ _ _ h => by cases h
theorem S1_ok {B : Nat} : SumPOk Try.prog B S1 := by
  intro f args H s h
  unfold S1 at h
  split at h
  · rename_i i
    split at h
    · rename_i rows ty hi
      cases h
      intro hob
      exact WF.sort hi hob Try.slices_Sort_int Try.slices_Sort_int_none
    · cases h
  · cases h
theorem machs_small {B : Nat} {most : Int} {m : Mp} {bs : List Nat} {clk : Nat} (hm : m.length ≤ 1000) :
    WF Try.prog B 20 [.ptr 0 0] (hS most m bs clk) fun v H' => (∀ k, k < 2 → H'.get k = (hS most m bs clk).get k) ∧ ∃ j rows ty, 2 ≤ j ∧ j < H'.next ∧ v = .sw j ∧ H'.get j = some (.seq iR rows ty) ∧ rows = machs m := by
  have h := WF.owe (B := B) (Owe.of (Ma.owed_eq most m bs clk (machs m) invV) (ma_ok hm)) mixed S1_ok
  refine h.mono fun v H' hv => ?_
  unfold Ma.post at hv
  split at hv
  · rename_i j
    split at hv
    · rename_i rows hj
      obtain ⟨e, h1, h2, h3, h4⟩ := hv
      refine ⟨fun k hk => ?_, j, rows, none, h1, h2, rfl, hj, e⟩
      match k, hk with
      | 0, _ => exact h3
      | 1, _ => exact h4
    · exact hv.elim
  · exact hv.elim
/-- The blocks of a shard, at places of their own. -/
theorem at_ok {H : Heap} {i mi : Nat} {most : Int} {m : Mp} {bs : List Nat} {clk : Nat} (h1 : H.get i = some (.cells false 2 [.sI .i64 most, .map mi] (some 71))) (h2 : H.get mi = some (.smap false true iR seenR m bs clk)) :
    [i, mi].Nodup ∧ isSame (sameRen 0 [i, mi]) 0 i = true ∧ isSame (sameRen 0 [i, mi]) 1 mi = true ∧
    (∀ (q j : Nat), ([i, mi] : List Nat)[q]? = some j → H.get j = ((hS most m bs clk).get q).map (AObj.ren (newName [i, mi] H.next))) ∧
    (∀ (q : Nat) (o : AObj), q < ([i, mi] : List Nat).length → (hS most m bs clk).get q = some o → ∃ (j : Nat) (ps : List Prop), ([i, mi] : List Nat)[q]? = some j ∧ mO (sameRen 0 [i, mi]) o (.same j) (H.get j) = some ps ∧ AllP ps) := by
  have hne : i ≠ mi := fun e => by rw [e, h2] at h1; cases h1
  have hs : isSame (sameRen 0 [i, mi]) 0 i = true := by simp [isSame, sameRen, lk, Nat.beq_refl]
  have hs1 : isSame (sameRen 0 [i, mi]) 1 mi = true := by
    simp [isSame, sameRen, lk, Nat.beq_refl, Nat.beq]
  refine ⟨by simp [hne], hs, hs1, ?_, ?_⟩
  · intro q j hq
    match q, hq with
    | 0, hq =>
      have : i = j := by simpa using hq
      subst this
      rw [h1]; rfl
    | 1, hq =>
      have : mi = j := by simpa using hq
      subst this
      rw [h2]; rfl
  · intro q o hq ho
    match q, hq, ho with
    | 0, _, ho =>
      have : AObj.cells false 2 [.sI .i64 most, .map 1] (some 71) = o := Option.some.inj ho
      subst this
      refine ⟨i, [most = most], rfl, ?_, ⟨rfl, trivial⟩⟩
      have hmap : mV (sameRen 0 [i, mi]) (.map 1) (.map mi) = some [] := by simp [mV, hs1, chkB]
      rw [h1]
      have e (cs cs' : List AV) : mO (sameRen 0 [i, mi]) (.cells false 2 cs (some 71)) (.same i) (some (.cells false 2 cs' (some 71))) = andP (some []) (mVL (sameRen 0 [i, mi]) cs cs') := rfl
      have ei (a b : Int) : mV (sameRen 0 [i, mi]) (.sI .i64 a) (.sI .i64 b) = some [b = a] := rfl
      have ec (a b : AV) (x y : List AV) : mVL (sameRen 0 [i, mi]) (a :: x) (b :: y) = andP (mV (sameRen 0 [i, mi]) a b) (mVL (sameRen 0 [i, mi]) x y) := rfl
      have en : mVL (sameRen 0 [i, mi]) [] [] = some [] := rfl
      rw [e, ec, ei, ec, hmap, en]; rfl
    | 1, _, ho =>
      have : AObj.smap false true iR seenR m bs clk = o := Option.some.inj ho
      subst this
      exact ⟨mi, [m = m, bs = bs, clk = clk], rfl, by rw [h2]; rfl, ⟨rfl, rfl, rfl, trivial⟩⟩
theorem machs_any {B : Nat} {H : Heap} {i mi : Nat} {most : Int} {m : Mp} {bs : List Nat} {clk : Nat} (h1 : H.get i = some (.cells false 2 [.sI .i64 most, .map mi] (some 71))) (h2 : H.get mi = some (.smap false true iR seenR m bs clk)) (hm : m.length ≤ 1000) :
    WF Try.prog B 20 [.ptr i 0] H fun v H' => v = .sw H.next ∧ H' = H.alloc (.seq iR (machs m) none) := by
  obtain ⟨k1, k2, k3, k4, k5⟩ := at_ok h1 h2
  refine (WF.lookNewAt (r := iR) (R := fun rows => rows = machs m) (machs_small (most := most) (m := m) (bs := bs) (clk := clk) hm) [i, mi] k1 rfl rfl rfl (qs := []) ?_ trivial k4 k5).mono fun v H' ⟨rows, e1, e2, e3⟩ => ⟨e2, by rw [e3, e1]⟩
  simp [mVL, mV, k2, chkB, andP, Nat.beq_refl]
/-- With the machines. -/
def S2 : SumP := fun f args H => match f, args with
  | 20, [.ptr i 0] => match H.get i with
    | some (.cells false 2 [.sI .i64 most, .map mi] (some 71)) => match H.get mi with
      | some (.smap false true (.one (.int .i64)) (.cons (.sl (.cons .txt (.cons (.int .i64) (.cons (.int .i64) (.cons (.int .u8) (.cons (.int .i64) (.cons (.int .i64) (.one (.int .i64))))))))) (.cons .boo (.one (.int .i64)))) m bs clk) => some (.fn (some (List.length (α := Int × Seen) m ≤ 1000)) (.sw H.next) (H.alloc (.seq iR (machs m) none)))
      | _ => none
    | _ => none
  | f, args => S1 f args H
theorem S2_ok {B : Nat} : SumPOk Try.prog B S2 := by
  intro f args H s h
  unfold S2 at h
  split at h
  · rename_i i
    split at h
    · rename_i most mi h1
      split at h
      · rename_i m bs clk h2
        cases h
        intro hm
        exact machs_any h1 h2 hm
      · cases h
    · cases h
  · exact S1_ok _ _ _ _ h
end Go.Proofs.Ytdohdhphpjhcjaa.Sh
