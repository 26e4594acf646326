/- A part of the proof that 'reevelaw10.NetOnce' returns true for every input: all letters, as a summary. No condition. -/
import Derived.Test.YtdeoahhofhmgfaaLsPf
namespace Go.Proofs.Ytdeoahhofhmgfaa.No
open Go.AM Sz
noncomputable section
variable {m : Lm} {bs : List Nat} {clk : Nat} {last : Int} {cm : Cm} {cbs : List Nat} {cclk : Nat}
theorem list_small {B : Nat} (hm : m.length ≤ 4096) : WF Try.prog B 35 [.ptr 0 0] (hN m bs clk last cm cbs cclk) fun v H' => (∀ k, k < 3 → H'.get k = (hN m bs clk last cm cbs cclk).get k) ∧ ∃ j rows ty, 3 ≤ j ∧ j < H'.next ∧ v = .sw j ∧ H'.get j = some (.seq letR rows ty) ∧ okL m rows := by
  have h := WF.owe (B := B) (Owe.of (Ls.owed_eq m bs clk last cm cbs cclk (okL m) invV (iL m)) (ls_ok hm)) mixed S3_ok
  refine h.mono fun v H' hv => ?_
  unfold Ls.post at hv
  split at hv
  · rename_i j
    split at hv
    · rename_i rows hj
      obtain ⟨e, h1, h2, h3, h4, h5⟩ := hv
      refine ⟨fun k hk => ?_, j, rows, none, h1, h2, rfl, hj, e⟩
      match k, hk with
      | 0, _ => exact h3
      | 1, _ => exact h4
      | 2, _ => exact h5
    · exact hv.elim
  · exact hv.elim
/-- The blocks of a net, at places of their own. -/
theorem at_net {H : Heap} {i mi ci : Nat} (h1 : H.get i = some (.cells false 3 [.map mi, .sI .u64 last, .map ci] (some 121))) (h2 : H.get mi = some (.smap false true uR letR m bs clk)) (h3 : H.get ci = some (.smap true false pairR iR cm cbs cclk)) :
    [i, mi, ci].Nodup ∧ isSame (sameRen 0 [i, mi, ci]) 0 i = true ∧
    (∀ (q j : Nat), ([i, mi, ci] : List Nat)[q]? = some j → H.get j = ((hN m bs clk last cm cbs cclk).get q).map (AObj.ren (newName [i, mi, ci] H.next))) ∧
    (∀ (q : Nat) (o : AObj), q < ([i, mi, ci] : List Nat).length → (hN m bs clk last cm cbs cclk).get q = some o → ∃ (j : Nat) (ps : List Prop), ([i, mi, ci] : List Nat)[q]? = some j ∧ mO (sameRen 0 [i, mi, ci]) o (.same j) (H.get j) = some ps ∧ AllP ps) := by
  have n1 : i ≠ mi := fun e => by rw [e, h2] at h1; cases h1
  have n2 : i ≠ ci := fun e => by rw [e, h3] at h1; cases h1
  have n3 : mi ≠ ci := fun e => by rw [e, h3] at h2; cases h2
  have hs : ∀ q j, ([i, mi, ci] : List Nat)[q]? = some j → isSame (sameRen 0 [i, mi, ci]) q j = true := fun q j hq => by
    unfold isSame
    rw [lk_sameRen, if_pos (Nat.zero_le _), Nat.sub_zero, hq]
    simp [Nat.beq_refl]
  refine ⟨by simp [n1, n2, n3], hs 0 i rfl, ?_, ?_⟩
  · intro q j hq
    match q, hq with
    | 0, hq =>
      have : i = j := by simpa using hq
      subst this
      rw [h1]; rfl
    | 1, hq =>
      have : mi = j := by simpa using hq
      subst this
      rw [h2]; rfl
    | 2, hq =>
      have : ci = j := by simpa using hq
      subst this
      rw [h3]; rfl
  · intro q o hq ho
    match q, hq, ho with
    | 0, _, ho =>
      have : AObj.cells false 3 [.map 1, .sI .u64 last, .map 2] (some 121) = o := Option.some.inj ho
      subst this
      refine ⟨i, [last = last], rfl, ?_, ⟨rfl, trivial⟩⟩
      have hm1 : mV (sameRen 0 [i, mi, ci]) (.map 1) (.map mi) = some [] := by simp [mV, hs 1 mi rfl, chkB]
      have hm2 : mV (sameRen 0 [i, mi, ci]) (.map 2) (.map ci) = some [] := by simp [mV, hs 2 ci rfl, chkB]
      rw [h1]
      have e (cs cs' : List AV) : mO (sameRen 0 [i, mi, ci]) (.cells false 3 cs (some 121)) (.same i) (some (.cells false 3 cs' (some 121))) = andP (some []) (mVL (sameRen 0 [i, mi, ci]) cs cs') := rfl
      have ei (a b : Int) : mV (sameRen 0 [i, mi, ci]) (.sI .u64 a) (.sI .u64 b) = some [b = a] := rfl
      have ec (a b : AV) (x y : List AV) : mVL (sameRen 0 [i, mi, ci]) (a :: x) (b :: y) = andP (mV (sameRen 0 [i, mi, ci]) a b) (mVL (sameRen 0 [i, mi, ci]) x y) := rfl
      have en : mVL (sameRen 0 [i, mi, ci]) [] [] = some [] := rfl
      rw [e, ec, hm1, ec, ei, ec, hm2, en]; rfl
    | 1, _, ho =>
      have : AObj.smap false true uR letR m bs clk = o := Option.some.inj ho
      subst this
      exact ⟨mi, [m = m, bs = bs, clk = clk], rfl, by rw [h2]; rfl, ⟨rfl, rfl, rfl, trivial⟩⟩
    | 2, _, ho =>
      have : AObj.smap true false pairR iR cm cbs cclk = o := Option.some.inj ho
      subst this
      exact ⟨ci, [cm = cm, cbs = cbs, cclk = cclk], rfl, by rw [h3]; rfl, ⟨rfl, rfl, rfl, trivial⟩⟩
theorem list_any {B : Nat} {H : Heap} {i mi ci : Nat} (h1 : H.get i = some (.cells false 3 [.map mi, .sI .u64 last, .map ci] (some 121))) (h2 : H.get mi = some (.smap false true uR letR m bs clk)) (h3 : H.get ci = some (.smap true false pairR iR cm cbs cclk)) (hm : m.length ≤ 4096) :
    WF Try.prog B 35 [.ptr i 0] H fun v H' => ∃ rows, okL m rows ∧ v = .sw H.next ∧ H' = H.alloc (.seq letR rows none) := by
  obtain ⟨k1, k2, k4, k5⟩ := at_net h1 h2 h3
  refine WF.lookNewAt (r := letR) (R := okL m) (list_small hm) [i, mi, ci] k1 rfl rfl rfl (qs := []) ?_ trivial k4 k5
  simp [mVL, mV, k2, chkB, andP, Nat.beq_refl]
/-- With all letters. -/
def S4 : SumP := fun f args H => match f, args with
  | 35, [.ptr i 0] => match H.get i with
    | some (.cells false 3 [.map mi, .sI .u64 _, .map ci] (some 121)) => match H.get mi with
      | some (.smap false true (.one (.int .u64)) (.cons (.int .u64) (.cons (.int .i64) (.cons (.int .i64) (.cons .txt (.one (.int .i64)))))) m _ _) => match H.get ci with
        | some (.smap true false (.cons (.int .i64) (.one (.int .i64))) (.one (.int .i64)) _ _ _) =>
          some (.gen fun Q => List.length (α := Int × Letter) m ≤ 4096 ∧ ∀ rows : List Letter, okL m rows → Q (.sw H.next) (H.alloc (.seq letR rows none)))
        | _ => none
      | _ => none
    | _ => none
  | f, args => S3 f args H
theorem S4_ok {B : Nat} : SumPOk Try.prog B S4 := by
  intro f args H s h
  unfold S4 at h
  split at h
  · split at h
    · rename_i h1
      split at h
      · rename_i h2
        split at h
        · rename_i h3
          cases h
          rintro Q ⟨hm, hq⟩
          exact (list_any h1 h2 h3 hm).mono fun v H' ⟨rows, hr, hv, e⟩ => by subst hv; subst e; exact hq rows hr
        · cases h
      · cases h
    · cases h
  · exact S3_ok _ _ _ _ h
end
end Go.Proofs.Ytdeoahhofhmgfaa.No
