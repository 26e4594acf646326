/- A part of the proofs about shards: what a report does, as a summary. No condition. -/
import Derived.Test.YtdohdhphpjhcjaaRpPf
import Derived.Test.YtdohdhphpjhcjaaAmJ
namespace Go.Proofs.Ytdohdhphpjhcjaa.Sh
open Go.AM
noncomputable section
/-- What was told last. -/
def oldOf (m : Mp) (a : Int) : List Row := ((mget m a).getD (([], false, 0) : Seen)).1
def mP (m : Mp) (a : Int) (l : List Row) : Mp := mput m a (l, true, 0)
def bP (m : Mp) (bs : List Nat) (clk : Nat) (a : Int) : List Nat := bput m bs clk a
def cP (m : Mp) (clk : Nat) (a : Int) : Nat := cput m clk a
theorem report_small {B : Nat} {most a : Int} {l : List Row} {m : Mp} {bs : List Nat} {clk : Nat} (hl : l.length ≤ 1000000) (ho : (oldOf m a).length ≤ 256) :
    WF Try.prog B 10 [.ptr 0 0, .sI .i64 a, .dsl rowR l] (hS most m bs clk) fun v H' => 2 ≤ H'.next ∧ ∃ ch : Nat → Option AObj, (∀ k, k < 2 → H'.get k = (match ch k with | none => (hS most m bs clk).get k | some o => some o)) ∧ (∀ k o, ch k = some o → o.plain = true) ∧
      ((v.closed = true ∧ ∃ e, Rp.erI a m l e ∧ v = .tup [.nilSlc, .int .i64 e] ∧ ch = fun _ => none) ∨ ∃ j rows ty c, 2 ≤ j ∧ j < H'.next ∧ c.closed = true ∧ v = .tup [.sw j, c] ∧ H'.get j = some (.seq rowR rows ty) ∧
        (((mget m a).isSome = true ∧ okRows l) ∧ c = .int .i64 0 ∧ rows = chg (oldOf m a) l ∧ ch = fun k => if k = 1 then some (.smap false true iR seenR (mP m a l) (bP m bs clk a) (cP m clk a)) else none)) := by
  have h := WF.owe (B := B) (Owe.of (Rp.owed_eq most a l m bs clk (Rp.invI l) (Rp.invC (oldOf m a) l) (Rp.erI a m l) ((mget m a).isSome = true ∧ okRows l) (chg (oldOf m a) l)) (Rp.rp_ok hl ho)) mixed S3_ok
  refine h.mono fun v H' hv => ?_
  unfold Rp.post at hv
  split at hv
  · rename_i e
    obtain ⟨h1, h0, h2, h3⟩ := hv
    refine ⟨h0, fun _ => none, fun k hk => ?_, fun k o hko => (by simp at hko), .inl ⟨rfl, e, h1, rfl, rfl⟩⟩
    match k, hk with
    | 0, _ => exact h2
    | 1, _ => exact h3
  · rename_i j
    split at hv
    · rename_i rows hj
      obtain ⟨hok, e, h1, h2, h3, h4⟩ := hv
      refine ⟨by omega, _, fun k hk => ?_, fun k o hko => ?_, .inr ⟨j, rows, none, .int .i64 0, h1, h2, rfl, rfl, hj, hok, rfl, e, rfl⟩⟩
      · match k, hk with
        | 0, _ => simpa using h3
        | 1, _ => exact h4
      · split at hko
        · cases hko; rfl
        · cases hko
    · exact hv.elim
  · exact hv.elim
/-- The heap, with those blocks turned. -/
def mkH (H : Heap) (i mi : Nat) (ch : Nat → Option AObj) : Heap :=
  let H1 := match ch 1 with
    | none => H
    | some o => H.set mi o
  match ch 0 with
  | none => H1
  | some o => H1.set i o
theorem mkH_ok {H : Heap} {i mi : Nat} (hne : i ≠ mi) (ch : Nat → Option AObj) : (mkH H i mi ch).next = H.next ∧ (∀ k, k ∉ [i, mi] → (mkH H i mi ch).get k = H.get k) ∧ ∀ q j, [i, mi][q]? = some j → (mkH H i mi ch).get j = (match ch q with | none => H.get j | some o => some o) := by
  unfold mkH
  refine ⟨?_, fun k hk => ?_, fun q j hq => ?_⟩
  · cases ch 1 <;> cases ch 0 <;> rfl
  · simp only [List.mem_cons, List.not_mem_nil, or_false, not_or] at hk
    cases ch 1 <;> cases ch 0 <;> simp [Heap.get_set, hk.1, hk.2]
  · match q, hq with
    | 0, hq =>
      have : i = j := by simpa using hq
      subst this
      cases ch 1 <;> cases ch 0 <;> simp [Heap.get_set, hne]
    | 1, hq =>
      have : mi = j := by simpa using hq
      subst this
      cases ch 1 <;> cases ch 0 <;> simp [Heap.get_set, Ne.symm hne]
theorem report_any {B : Nat} {H : Heap} {i mi : Nat} {most a : Int} {l : List Row} {m : Mp} {bs : List Nat} {clk : Nat} (h1 : H.get i = some (.cells false 2 [.sI .i64 most, .map mi] (some 71))) (h2 : H.get mi = some (.smap false true iR seenR m bs clk)) (hl : l.length ≤ 1000000) (ho : (oldOf m a).length ≤ 256) :
    WF Try.prog B 10 [.ptr i 0, .sI .i64 a, .dsl rowR l] H fun v H' => (∃ e, Rp.erI a m l e ∧ v = .tup [.nilSlc, .int .i64 e] ∧ H' = H) ∨
      (((mget m a).isSome = true ∧ okRows l) ∧ v = .tup [.sw H.next, .int .i64 0] ∧ H' = (H.set mi (.smap false true iR seenR (mP m a l) (bP m bs clk a) (cP m clk a))).alloc (.seq rowR (chg (oldOf m a) l) none)) := by
  obtain ⟨k1, k2, k3, k4, k5⟩ := at_ok h1 h2
  have hne : i ≠ mi := fun e => by rw [e, h2] at h1; cases h1
  refine (WF.turnNewAt (r := rowR) (R0 := fun v ch => ∃ e, Rp.erI a m l e ∧ v = .tup [.nilSlc, .int .i64 e] ∧ ch = fun _ => none) (R1 := fun c rows ch => ((mget m a).isSome = true ∧ okRows l) ∧ c = .int .i64 0 ∧ rows = chg (oldOf m a) l ∧ ch = fun k => if k = 1 then some (.smap false true iR seenR (mP m a l) (bP m bs clk a) (cP m clk a)) else none)
    (report_small (most := most) (m := m) (bs := bs) (clk := clk) hl ho) [i, mi] k1 rfl rfl rfl (qs := [a = a, l = l]) ?_ ⟨rfl, rfl, trivial⟩ k4 k5 (mkH H i mi) (mkH_ok hne)).mono ?_
  · have e0 : mV (sameRen 0 [i, mi]) (.ptr 0 0) (.ptr i 0) = some [] := by simp [mV, k2, chkB, Nat.beq_refl]
    have e1 : mV (sameRen 0 [i, mi]) (.sI .i64 a) (.sI .i64 a) = some [a = a] := rfl
    have e2 : mV (sameRen 0 [i, mi]) (.dsl rowR l) (.dsl rowR l) = some [l = l] := rfl
    have ec (u v : AV) (x y : List AV) : mVL (sameRen 0 [i, mi]) (u :: x) (v :: y) = andP (mV (sameRen 0 [i, mi]) u v) (mVL (sameRen 0 [i, mi]) x y) := rfl
    have en : mVL (sameRen 0 [i, mi]) [] [] = some [] := rfl
    rw [ec, e0, ec, e1, ec, e2, en]; rfl
  · rintro v H' (⟨ch, ⟨e, he, hv, rfl⟩, rfl⟩ | ⟨ch, c, rows, ⟨hok, rfl, rfl, rfl⟩, hv, rfl⟩)
    · exact .inl ⟨e, he, hv, rfl⟩
    · exact .inr ⟨hok, hv, rfl⟩
/-- With reports. -/
def S4 : SumP := fun f args H => match f, args with
  | 10, [.ptr i 0, .sI .i64 a, .dsl (.cons .txt (.cons (.int .i64) (.cons (.int .i64) (.cons (.int .u8) (.cons (.int .i64) (.cons (.int .i64) (.one (.int .i64)))))))) l] => match H.get i with
    | some (.cells false 2 [.sI .i64 most, .map mi] (some 71)) => match H.get mi with
      | some (.smap false true (.one (.int .i64)) (.cons (.sl (.cons .txt (.cons (.int .i64) (.cons (.int .i64) (.cons (.int .u8) (.cons (.int .i64) (.cons (.int .i64) (.one (.int .i64))))))))) (.cons .boo (.one (.int .i64)))) m bs clk) =>
        some (.gen fun Q => (List.length (α := Row) l ≤ 1000000 ∧ (oldOf m a).length ≤ 256) ∧ ((mget (κ := Int) (ν := Seen) m a).isSome = false → Q (.tup [.nilSlc, .int .i64 5]) H) ∧ ((mget (κ := Int) (ν := Seen) m a).isSome = true → ¬ okRows l → Q (.tup [.nilSlc, .int .i64 2]) H) ∧
          ((mget (κ := Int) (ν := Seen) m a).isSome = true → okRows l → Q (.tup [.sw H.next, .int .i64 0]) ((H.set mi (.smap false true iR seenR (mP m a l) (bP m bs clk a) (cP m clk a))).alloc (.seq rowR (chg (oldOf m a) l) none))))
      | _ => none
    | _ => none
  | f, args => S3 f args H
theorem S4_ok {B : Nat} : SumPOk Try.prog B S4 := by
  intro f args H s h
  unfold S4 at h
  split at h
  · rename_i i a l
    split at h
    · rename_i most mi h1
      split at h
      · rename_i m bs clk h2
        cases h
        intro Q ⟨⟨hl, ho⟩, he1, he2, hk⟩
        refine (report_any h1 h2 hl ho).mono fun v H' hv => ?_
        rcases hv with ⟨e, hee, rfl, rfl⟩ | ⟨⟨hs, hok⟩, rfl, rfl⟩
        · rcases hee with ⟨rfl, h⟩ | ⟨rfl, h, h'⟩
          · exact he1 h
          · exact he2 h h'
        · exact hk hs hok
      · cases h
    · cases h
  · exact S3_ok _ _ _ _ h
end
end Go.Proofs.Ytdohdhphpjhcjaa.Sh
