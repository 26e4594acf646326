/- 'reevelaw28.ShardNone' returns true for every input, and the input reads as it did. No condition. -/
import Derived.Test.YtbopjjagjkjnlaaRows
import Derived.Test.YtbopjjagjkjnlaaSnSum
import Derived.Test.YtbopjjagjkjnlaaAmRow
import Derived.KernelRfl
namespace Go.Proofs.Ytbopjjagjkjnlaa.ShardNone
open Go.ChangeShapes Go.WideShapes Go.ChangeAt Go.RowKit Go.AM

theorem own : ownKnob Try.prog.godebug = none := by kernel_rfl
theorem laidOut : laidOutB Try.prog = true := by kernel_rfl

set_option maxRecDepth 100000 in
theorem lifted (os : Os) (started : os.Started) (H : Type) (enc : TypeId × Value → H) :
    ReturnsInHanded {} Try.checked os 7 .any (Rows.shardNoneSpec.pre6 enc Try.prog Try.f7 Rows.shardNoneRow.domain false) (Rows.shardNoneSpec.post enc Try.prog Try.f7 false true false false) := by
  refine returnsInHanded_of_change (C := Try.checked) own started (by kernel_rfl) Try.func7
    (ChangeSpec.witness6 (enc := enc) (C := Try.checked) false ⟨#[], #[.int .i64 0], []⟩ 8 (by kernel_rfl) (by kernel_rfl) (by kernel_rfl) (by kernel_rfl)) ?_
  intro W base args ds gs before hval0 hW hcnd _
  have hval : ∀ (j : Nat) t v, Try.f7.params[j]? = some t → args[j]? = some v → Value.okWide Try.prog W .any base t v := hval0
  have hW' := hW
  obtain ⟨p, q, hA0, hV, rfl, hfz, hnd⟩ := hW
  have hA : DataW.TrodAll enc Try.prog W 0 (fun _ => true) true Try.f7.params.toList args.toList ds p := hA0
  rw [Try.params7] at hA hval
  obtain ⟨v0, vs0, d0, ds0, p0, q0, hargs, rfl, rfl, h0, r0⟩ := trodAll_cons hA
  obtain ⟨rfl, rfl, rfl⟩ := trodAll_nil r0
  obtain rfl : args = #[v0] := by cases args; simp_all
  obtain ⟨a0, ha0, hr0⟩ := arg_sym (s := .num .i64) (ρ := ρ0 W) (hval 0 _ v0 rfl rfl) (by kernel_rfl)
  obtain ⟨x0, hx0, rfl⟩ := ha0
  refine (law_calls (avs := [.sI .i64 x0]) (ran x0 hx0) ⟨v0, _, rfl, hr0, rfl⟩).mono fun e W' ⟨he, hB⟩ => ?_
  subst he
  exact ⟨_, rfl, law_post (tb := 4) laidOut (by rw [Try.params7]; decide +kernel) hW' rfl (by kernel_rfl) (by kernel_rfl) rfl hB⟩

theorem proved : Rows.ShardNoneSaid :=
  OpenClaim.holds_of_wide 7 Try.f7 rfl rfl rfl rfl rfl rfl rfl ⟨rfl, rfl, rfl, rfl, rfl⟩ rfl rfl rfl rfl rfl (by kernel_rfl) Try.func7 (by kernel_rfl)
    (of_decide_eq_true (by kernel_rfl)) (by unfold Func.isWrapper; first | (rw [if_pos (by decide +kernel)]; kernel_rfl) | (rw [if_neg (by decide +kernel)]; exact ⟨rfl, rfl⟩))
    (fun os started H enc _ => lifted os started H enc)
end Go.Proofs.Ytbopjjagjkjnlaa.ShardNone

namespace Go.Proofs.Ytbopjjagjkjnlaa
theorem shardNoneProved : Rows.ShardNoneSaid := ShardNone.proved
#print axioms shardNoneProved
end Go.Proofs.Ytbopjjagjkjnlaa
