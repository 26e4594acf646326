/- A part of the proofs about sorting numbers (uint64): what is done, as summaries. No condition. -/
import Derived.Test.YtdeoahhofhmgfaaSzS2
import Derived.Test.YtdeoahhofhmgfaaHsPf
import Derived.Test.YtdeoahhofhmgfaaBpPf
import Derived.Test.YtdeoahhofhmgfaaCpPf
namespace Go.Proofs.Ytdeoahhofhmgfaa.Sz
open Go.AM
noncomputable section
theorem w117 {B : Nat} {a b : Int} {rows : List Int} (h1 : 0 ≤ a) (h2 : a ≤ b) (h3 : b ≤ rows.length) (h4 : rows.length < 4611686018427387904) : WF Try.prog B 117 (.sw 0 :: sI64 [a, b]) (hS rows) (postN fun r => r.Perm rows) :=
  WF.owe (Owe.of (Hs.owed_eq a b rows _ _ _) (Hs.hs_ok h1 h2 h3 h4)) mixed S1_ok
theorem w118 {B : Nat} {a b : Int} {rows : List Int} (h1 : 0 ≤ a) (h2 : a ≤ b) (h3 : b ≤ rows.length) (h4 : rows.length < 4611686018427387904) : WF Try.prog B 118 (.sw 0 :: sI64 [a, b]) (hS rows) (postN fun r => r.Perm rows) :=
  WF.owe (Owe.of (Bp.owed_eq a b rows _ _) (Bp.bp_ok h1 h2 h3 h4)) mixed S1_ok
theorem w119 {B : Nat} {a b : Int} {rows : List Int} (h1 : 0 ≤ a) (h2 : a + 8 ≤ b) (h3 : b ≤ rows.length) (h4 : rows.length < 4611686018427387904) : WF Try.prog B 119 (.sw 0 :: sI64 [a, b]) (hS rows) (Cp.postP rows (Cp.Pl a b)) :=
  WF.owe (Owe.of (Cp.owed_eq a b rows _) (Cp.cp_ok h1 h2 h3 h4)) mixed S1_ok
/-- With the greater ones; and itself, for fewer than N. -/
def S2 (N : Int) : SumP := fun f args H => match args with
  | .sw i :: xs => match H.get i with
    | some (.seq (.one (.int .u64)) rows none) => match f, nums xs with
      | 117, some [a, b] => some (.gen fun Q => (0 ≤ a ∧ a ≤ b ∧ b ≤ List.length (α := Int) rows ∧ List.length (α := Int) rows < 4611686018427387904) ∧
          ∀ r : List Int, r.Perm rows → Q (.tup []) (H.set i (.seq uR r none)))
      | 118, some [a, b] => some (.gen fun Q => (0 ≤ a ∧ a ≤ b ∧ b ≤ List.length (α := Int) rows ∧ List.length (α := Int) rows < 4611686018427387904) ∧
          ∀ r : List Int, r.Perm rows → Q (.tup []) (H.set i (.seq uR r none)))
      | 119, some [a, b] => some (.gen fun Q => (0 ≤ a ∧ a + 8 ≤ b ∧ b ≤ List.length (α := Int) rows ∧ List.length (α := Int) rows < 4611686018427387904) ∧
          ∀ p m : Int, a ≤ p → p < b → Q (.tup [.sI .i64 p, .sI .i64 m]) H)
      | 112, some [a, b, _] => some (.gen fun Q => (0 ≤ a ∧ a ≤ b ∧ b ≤ List.length (α := Int) rows ∧ List.length (α := Int) rows < 4611686018427387904 ∧ b - a < N) ∧
          ∀ r : List Int, r.Perm rows → Q (.tup []) (H.set i (.seq uR r none)))
      | _, _ => S1 f args H
    | _ => S1 f args H
  | _ => S1 f args H
theorem at_one {H : Heap} {i : Nat} {rows : List Int} (h1 : H.get i = some (.seq uR rows none)) :
    (∀ q j, ([i] : List Nat)[q]? = some j → H.get j = ((hS rows).get q).map (AObj.ren (newName [i] H.next))) ∧
    (∀ q o, q < ([i] : List Nat).length → (hS rows).get q = some o → ∃ j ps, ([i] : List Nat)[q]? = some j ∧ mO (sameRen 0 [i]) o (.same j) (H.get j) = some ps ∧ AllP ps) := by
  refine ⟨fun q j hq => ?_, fun q o hq ho => ?_⟩
  · match q, hq with
    | 0, hq =>
      have : i = j := by simpa using hq
      subst this
      rw [h1]; rfl
  · have hq : q < 1 := hq
    obtain rfl : q = 0 := by omega
    have : AObj.seq uR rows none = o := Option.some.inj ho
    subst this
    exact ⟨i, [rows = rows], rfl, by rw [h1]; rfl, ⟨rfl, trivial⟩⟩
/-- A call that only looks at a block of numbers. -/
theorem look_any {B : Nat} {f : FuncId} {rows ns : List Int} {xs : List AV} {R : AV → Prop} {H : Heap} {i : Nat} (h1 : H.get i = some (.seq uR rows none)) (hn : nums xs = some ns)
    (h : WF Try.prog B f (.sw 0 :: sI64 ns) (hS rows) fun v H' => H'.get 0 = some (.seq uR rows none) ∧ v.closed = true ∧ R v) :
    WF Try.prog B f (.sw i :: xs) H fun v H' => R v ∧ H' = H := by
  obtain ⟨qs, hq1, hq2⟩ := mVL_nums (r := sameRen 0 [i]) hn
  obtain ⟨k4, k5⟩ := at_one h1
  have hs : isSame (sameRen 0 [i]) 0 i = true := by
    unfold isSame
    rw [lk_sameRen]
    simp [Nat.beq_refl]
  refine WF.lookAt (Q := R) (h.mono fun v H' ⟨k0, k1, k2⟩ => ⟨fun k hk => ?_, k1, k2⟩) [i] (by simp) rfl rfl rfl (qs := [] ++ qs) ?_ hq2 k4 k5
  · have hk : k < 1 := hk
    obtain rfl : k = 0 := by omega
    exact k0
  · show andP (mV (sameRen 0 [i]) (.sw 0) (.sw i)) (mVL (sameRen 0 [i]) (sI64 ns) xs) = _
    have e : mV (sameRen 0 [i]) (.sw 0) (.sw i) = some [] := by simp [mV, hs, chkB]
    rw [e, hq1]
    rfl
theorem of_postP {B : Nat} {f : FuncId} {args : List AV} {H : Heap} {rows : List Int} {ok : Int → Prop} (h : WF Try.prog B f args H (Cp.postP rows ok)) : WF Try.prog B f args H fun v H' => H'.get 0 = some (.seq uR rows none) ∧ v.closed = true ∧ (∃ n m, v = .tup [.sI .i64 n, .sI .i64 m] ∧ ok n) :=
  WF.reval h fun v H' ρ x hv hr => by
    unfold Cp.postP at hv
    split at hv
    · rename_i u y
      split at hv
      · rename_i n m hn hm
        simp only [Rel, RelL] at hr
        obtain ⟨cs, rfl, x1, l1, e1, r1, x2, l2, rfl, r2, rfl⟩ := hr
        obtain ⟨rfl, hh⟩ := asX_sound hn r1
        obtain ⟨rfl, hh2⟩ := asX_sound hm r2
        refine ⟨.tup [.sI .i64 n, .sI .i64 m], ⟨hv.2.2.2.1, rfl, n, m, rfl, hv.1⟩, ?_⟩
        simp only [Rel, RelL]
        exact ⟨cs, rfl, _, _, e1, ⟨by trivial, hh⟩, _, _, rfl, ⟨by trivial, hh2⟩, rfl⟩
      · exact hv.elim
    · exact hv.elim
/-- It holds, if sorting itself does for fewer than N. -/
theorem S2_ok {B : Nat} {N : Int} (hN : ∀ (a b l : Int) (rows : List Int), 0 ≤ a → a ≤ b → b ≤ rows.length → rows.length < 4611686018427387904 → b - a < N → WF Try.prog B 112 (.sw 0 :: sI64 [a, b, l]) (hS rows) (postN fun r => r.Perm rows)) : SumPOk Try.prog B (S2 N) := by
  intro f args H s h
  unfold S2 at h
  split at h
  · rename_i i xs
    split at h
    · rename_i rows ho
      split at h
      · rename_i a b hn
        cases h
        rintro Q ⟨⟨p1, p2, p3, p4⟩, hq⟩
        exact (turn_any ho hn (of_postN (w117 p1 p2 p3 (by omega)))).mono fun v H' ⟨r, ⟨hv, hp⟩, e⟩ => by subst hv; subst e; exact hq r hp
      · rename_i a b hn
        cases h
        rintro Q ⟨⟨p1, p2, p3, p4⟩, hq⟩
        exact (turn_any ho hn (of_postN (w118 p1 p2 p3 (by omega)))).mono fun v H' ⟨r, ⟨hv, hp⟩, e⟩ => by subst hv; subst e; exact hq r hp
      · rename_i a b hn
        cases h
        rintro Q ⟨⟨p1, p2, p3, p4⟩, hq⟩
        exact (look_any ho hn (of_postP (w119 p1 p2 p3 (by omega)))).mono fun v H' ⟨⟨n, m, hv, hp⟩, e⟩ => by subst hv; subst e; exact hq n m hp.1 hp.2
      · rename_i a b l hn
        cases h
        rintro Q ⟨⟨p1, p2, p3, p4, p5⟩, hq⟩
        exact (turn_any ho hn (of_postN (hN a b l rows p1 p2 p3 (by omega) p5))).mono fun v H' ⟨r, ⟨hv, hp⟩, e⟩ => by subst hv; subst e; exact hq r hp
      · exact S1_ok _ _ _ _ h
    · exact S1_ok _ _ _ _ h
  · exact S1_ok _ _ _ _ h
end
end Go.Proofs.Ytdeoahhofhmgfaa.Sz
