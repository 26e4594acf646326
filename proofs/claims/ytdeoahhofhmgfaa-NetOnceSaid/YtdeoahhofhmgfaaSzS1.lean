/- A part of the proofs about sorting numbers (uint64): what is done, as summaries. No condition. -/
import Derived.Test.YtdeoahhofhmgfaaInPf
import Derived.Test.YtdeoahhofhmgfaaSdPf
import Derived.Test.YtdeoahhofhmgfaaRrPf
import Derived.Test.YtdeoahhofhmgfaaPiPf
import Derived.Test.YtdeoahhofhmgfaaPePf
import Derived.Test.YtdeoahhofhmgfaaPtPf
import Derived.Test.YtdeoahhofhmgfaaBnPf
namespace Go.Proofs.Ytdeoahhofhmgfaa.Sz
open Go.AM
noncomputable section
theorem mixed : Try.prog.follows .mixedOrders = true := by kernel_rfl
theorem noS_ok {P : Program} {B : Nat} : SumPOk P B noS := fun _ _ _ _ h => by cases h
def sI64 (ns : List Int) : List AV := ns.map fun n => .sI .i64 n
/-- Numbers, as arguments. -/
def nums : List AV → Option (List Int)
  | [] => some []
  | v :: vs => match v.asX with
    | some (.i64, n) => (nums vs).map (n :: ·)
    | _ => none
theorem mVL_nums {r : Ren} : ∀ {xs : List AV} {ns : List Int}, nums xs = some ns → ∃ qs, mVL r (sI64 ns) xs = some qs ∧ AllP qs
  | [], ns, h => by cases h; exact ⟨[], rfl, trivial⟩
  | v :: vs, ns, h => by
    unfold nums at h
    split at h
    · rename_i n hv
      rw [Option.map_eq_some_iff] at h
      obtain ⟨ms, h1, rfl⟩ := h
      obtain ⟨qs, h2, h3⟩ := mVL_nums (r := r) h1
      refine ⟨[n = n] ++ qs, ?_, ⟨rfl, h3⟩⟩
      show andP (mV r (.sI .i64 n) v) (mVL r (sI64 ms) vs) = _
      have e : mV r (.sI .i64 n) v = some [n = n] := by
        unfold mV
        rw [hv]
        rfl
      rw [e, h2]
      rfl
    · cases h
def mk1 (H : Heap) (i : Nat) (ch : Nat → Option AObj) : Heap := match ch 0 with
  | none => H
  | some o => H.set i o
/-- A call that turns one block of numbers, proved at a small heap. -/
theorem turn_any {B : Nat} {f : FuncId} {rows ns : List Int} {xs : List AV} {R : AV → List Int → Prop} {H : Heap} {i : Nat} (h1 : H.get i = some (.seq uR rows none)) (hn : nums xs = some ns)
    (h : WF Try.prog B f (.sw 0 :: sI64 ns) (hS rows) fun v H' => 1 ≤ H'.next ∧ ∃ r, H'.get 0 = some (.seq uR r none) ∧ v.closed = true ∧ R v r) :
    WF Try.prog B f (.sw i :: xs) H fun v H' => ∃ r, R v r ∧ H' = H.set i (.seq uR r none) := by
  obtain ⟨qs, hq1, hq2⟩ := mVL_nums (r := sameRen 0 [i]) hn
  have hs : isSame (sameRen 0 [i]) 0 i = true := by
    unfold isSame
    rw [lk_sameRen]
    simp [Nat.beq_refl]
  refine (WF.turnAt (R := fun v ch => ∃ r, R v r ∧ ch = fun k => if k = 0 then some (.seq uR r none) else none) (h.mono fun v H' ⟨k0, r, k1, k2, k3⟩ => ⟨k0, fun k => if k = 0 then some (.seq uR r none) else none, fun k hk => ?_, fun k o ho => ?_, k2, r, k3, rfl⟩)
    [i] (by simp) rfl rfl rfl (qs := [] ++ qs) ?_ hq2 ?_ ?_ (mk1 H i) ?_).mono ?_
  · have hk : k < 1 := hk
    obtain rfl : k = 0 := by omega
    simp only [if_true]
    exact k1
  · have ho : (if k = 0 then some (AObj.seq uR r none) else none) = some o := ho
    split at ho
    · cases ho; rfl
    · cases ho
  · show andP (mV (sameRen 0 [i]) (.sw 0) (.sw i)) (mVL (sameRen 0 [i]) (sI64 ns) xs) = _
    have e : mV (sameRen 0 [i]) (.sw 0) (.sw i) = some [] := by simp [mV, hs, chkB]
    rw [e, hq1]
    rfl
  · intro q j hq
    match q, hq with
    | 0, hq =>
      have : i = j := by simpa using hq
      subst this
      rw [h1]; rfl
  · intro q o hq ho
    have hq : q < 1 := hq
    obtain rfl : q = 0 := by omega
    have : AObj.seq uR rows none = o := Option.some.inj ho
    subst this
    exact ⟨i, [rows = rows], rfl, by rw [h1]; rfl, ⟨rfl, trivial⟩⟩
  · intro ch
    unfold mk1
    refine ⟨?_, fun k hk => ?_, fun q j hq => ?_⟩
    · cases ch 0 <;> rfl
    · simp only [List.mem_singleton] at hk
      cases ch 0 <;> simp [Heap.get_set, hk]
    · match q, hq with
      | 0, hq =>
        have : i = j := by simpa using hq
        subst this
        cases ch 0 <;> simp [Heap.get_set]
  · rintro v H' ⟨ch, ⟨r, hr, rfl⟩, rfl⟩
    exact ⟨r, hr, rfl⟩
theorem of_postN {B : Nat} {f : FuncId} {args : List AV} {H : Heap} {ok : List Int → Prop} (h : WF Try.prog B f args H (postN ok)) : WF Try.prog B f args H fun v H' => 1 ≤ H'.next ∧ ∃ r, H'.get 0 = some (.seq uR r none) ∧ v.closed = true ∧ (v = .tup [] ∧ ok r) :=
  h.mono fun v H' hv => by
    unfold postN at hv
    split at hv
    · split at hv
      · rename_i r hr
        exact ⟨hv.2, r, hr, rfl, rfl, hv.1⟩
      · exact hv.elim
    · exact hv.elim
theorem of_postB {B : Nat} {f : FuncId} {args : List AV} {H : Heap} {ok : List Int → Prop} (h : WF Try.prog B f args H (postB ok)) : WF Try.prog B f args H fun v H' => 1 ≤ H'.next ∧ ∃ r, H'.get 0 = some (.seq uR r none) ∧ v.closed = true ∧ ((∃ b, v = .sB b) ∧ ok r) :=
  WF.reval h fun v H' ρ x hv hr => by
    unfold postB at hv
    split at hv
    · rename_i b hb
      split at hv
      · rename_i r hr2
        have e := asB_sound hb hr
        exact ⟨.sB b, ⟨hv.2, r, hr2, rfl, ⟨b, rfl⟩, hv.1⟩, by simp only [Rel]; exact e⟩
      · exact hv.elim
    · exact hv.elim
theorem of_postI {B : Nat} {f : FuncId} {args : List AV} {H : Heap} {ok : List Int → Int → Prop} (h : WF Try.prog B f args H (postI ok)) : WF Try.prog B f args H fun v H' => 1 ≤ H'.next ∧ ∃ r, H'.get 0 = some (.seq uR r none) ∧ v.closed = true ∧ (∃ n, v = .sI .i64 n ∧ ok r n) :=
  WF.reval h fun v H' ρ x hv hr => by
    unfold postI at hv
    split at hv
    · rename_i n hn
      split at hv
      · rename_i r hr2
        obtain ⟨rfl, hh⟩ := asX_sound hn hr
        exact ⟨.sI .i64 n, ⟨hv.2, r, hr2, rfl, n, rfl, hv.1⟩, by simp only [Rel]; exact ⟨trivial, hh⟩⟩
      · exact hv.elim
    · exact hv.elim
end
end Go.Proofs.Ytdeoahhofhmgfaa.Sz
