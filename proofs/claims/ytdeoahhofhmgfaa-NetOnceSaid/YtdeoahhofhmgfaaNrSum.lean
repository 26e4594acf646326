/- A part of the proof that 'reevelaw10.NetOnce' returns true for every input: those that are ready, as a summary. No condition. -/
import Derived.Test.YtdeoahhofhmgfaaNrPf
import Derived.Test.YtdeoahhofhmgfaaAmJ
namespace Go.Proofs.Ytdeoahhofhmgfaa.No
open Go.AM Sz
noncomputable section
variable {m : Lm} {bs : List Nat} {clk : Nat} {last : Int} {cm : Cm} {cbs : List Nat} {cclk : Nat}
theorem ready_small {B : Nat} (hm : m.length ≤ 4096) : WF Try.prog B 37 [.ptr 0 0] (hN m bs clk last cm cbs cclk) fun v H' => (∀ k, k < 3 → H'.get k = (hN m bs clk last cm cbs cclk).get k) ∧ ((v.closed = true ∧ v = .nilSlc) ∨ ∃ j rows ty, 3 ≤ j ∧ j < H'.next ∧ v = .sw j ∧ H'.get j = some (.seq uR rows ty) ∧ LenOk rows) := by
  have h := WF.owe (B := B) (Owe.of (Nr.owed_eq m bs clk last cm cbs cclk Nr.jA Nr.jB Nr.jC Nr.jD) (Nr.nr_ok hm)) mixed S4_ok
  refine h.mono fun v H' hv => ?_
  unfold Nr.post at hv
  split at hv
  · rename_i j
    split at hv
    · rename_i rows hj
      obtain ⟨h1, h2, h6, h3, h4, h5⟩ := hv
      refine ⟨fun k hk => ?_, .inr ⟨j, rows, none, h1, h2, rfl, hj, h6⟩⟩
      match k, hk with
      | 0, _ => exact h3
      | 1, _ => exact h4
      | 2, _ => exact h5
    · exact hv.elim
  · obtain ⟨h3, h4, h5⟩ := hv
    refine ⟨fun k hk => ?_, .inl ⟨rfl, rfl⟩⟩
    match k, hk with
    | 0, _ => exact h3
    | 1, _ => exact h4
    | 2, _ => exact h5
  · exact hv.elim
theorem ready_any {B : Nat} {H : Heap} {i mi ci : Nat} (h1 : H.get i = some (.cells false 3 [.map mi, .sI .u64 last, .map ci] (some 121))) (h2 : H.get mi = some (.smap false true uR letR m bs clk)) (h3 : H.get ci = some (.smap true false pairR iR cm cbs cclk)) (hm : m.length ≤ 4096) :
    WF Try.prog B 37 [.ptr i 0] H fun v H' => (v = .nilSlc ∧ H' = H) ∨ ∃ rows, LenOk rows ∧ v = .sw H.next ∧ H' = H.alloc (.seq uR rows none) := by
  obtain ⟨k1, k2, k4, k5⟩ := at_net h1 h2 h3
  refine WF.lookNewAtE (r := uR) (Q0 := fun v => v = .nilSlc) (R := LenOk) (ready_small hm) [i, mi, ci] k1 rfl rfl rfl (qs := []) ?_ trivial k4 k5
  simp [mVL, mV, k2, chkB, andP, Nat.beq_refl]
/-- With those that are ready. -/
def S5 : SumP := fun f args H => match f, args with
  | 37, [.ptr i 0] => match H.get i with
    | some (.cells false 3 [.map mi, .sI .u64 _, .map ci] (some 121)) => match H.get mi with
      | some (.smap false true (.one (.int .u64)) (.cons (.int .u64) (.cons (.int .i64) (.cons (.int .i64) (.cons .txt (.one (.int .i64)))))) m _ _) => match H.get ci with
        | some (.smap true false (.cons (.int .i64) (.one (.int .i64))) (.one (.int .i64)) _ _ _) =>
          some (.gen fun Q => List.length (α := Int × Letter) m ≤ 4096 ∧ Q .nilSlc H ∧ ∀ l : List Int, LenOk l → Q (.sw H.next) (H.alloc (.seq uR l none)))
        | _ => none
      | _ => none
    | _ => none
  | 15, [] => some (.val (.bool true))
  | f, args => S4 f args H
theorem worksE : (true = true) = vTop Try.prog noS noL 20000 15 [] H0 (fun v _ => isB v true) := by kernel_rfl
theorem works15 {B : Nat} : WF Try.prog B 15 [] H0 (fun v _ => isB v true) := WF.owe (Owe.of worksE rfl) mixed noS_ok
theorem works_ok {B : Nat} {H : Heap} : WF Try.prog B 15 [] H (fun v H' => v = .bool true ∧ H' = H) :=
  WF.reval (WF.pureB (b := true) works15 rfl) fun v H' ρ x hv hr => ⟨.bool true, ⟨rfl, hv.2⟩, by rw [hv.1] at hr; simp only [Rel] at hr ⊢; exact hr⟩
theorem S5_ok {B : Nat} : SumPOk Try.prog B S5 := by
  intro f args H s h
  unfold S5 at h
  split at h
  · split at h
    · rename_i h1
      split at h
      · rename_i h2
        split at h
        · rename_i h3
          cases h
          rintro Q ⟨hm, hn, hq⟩
          refine (ready_any h1 h2 h3 hm).mono fun v H' hv => ?_
          rcases hv with ⟨hv, e⟩ | ⟨rows, hl, hv, e⟩
          · subst hv; subst e; exact hn
          · subst hv; subst e; exact hq rows hl
        · cases h
      · cases h
    · cases h
  · cases h; exact works_ok
  · exact S4_ok _ _ _ _ h
end
end Go.Proofs.Ytdeoahhofhmgfaa.No
