/- 'reevelaw06.WalNil' returns true for every input, and the input reads as it did. No condition. -/
import Derived.Test.YtpbmnmnaidkpkaaRows
import Derived.Test.YtpbmnmnaidkpkaaWnSum
import Derived.Test.YtpbmnmnaidkpkaaAmJ
import Derived.KernelRfl
namespace Go.Proofs.Ytpbmnmnaidkpkaa.WalNil
open Go.ChangeShapes Go.WideShapes Go.ChangeAt Go.RowKit Go.AM

theorem own : ownKnob Try.prog.godebug = none := by kernel_rfl
theorem laidOut : laidOutB Try.prog = true := by kernel_rfl

set_option maxRecDepth 100000 in
theorem lifted (os : Os) (started : os.Started) (H : Type) (enc : TypeId × Value → H) :
    ReturnsInHanded {} Try.checked os 3 .any (Rows.walNilSpec.pre6 enc Try.prog Try.f3 Rows.walNilRow.domain false) (Rows.walNilSpec.post enc Try.prog Try.f3 false true false false) := by
  refine returnsInHanded_of_change (C := Try.checked) own started (by kernel_rfl) Try.func3
    (ChangeSpec.witness6 (enc := enc) (C := Try.checked) false ⟨#[], #[.string ⟨#[]⟩, .int .i64 0], []⟩ 8 (by kernel_rfl) (by kernel_rfl) (by kernel_rfl) (by kernel_rfl)) ?_
  intro W base args ds gs before hval0 hW hcnd _
  have hval : ∀ (j : Nat) t v, Try.f3.params[j]? = some t → args[j]? = some v → Value.okWide Try.prog W .any base t v := hval0
  have hW' := hW
  obtain ⟨p, q, hA0, hV, rfl, hfz, hnd⟩ := hW
  have hA : DataW.TrodAll enc Try.prog W 0 (fun _ => true) true Try.f3.params.toList args.toList ds p := hA0
  rw [Try.params3] at hA hval
  obtain ⟨v0, vs0, d0, ds0, p0, q0, hargs, rfl, rfl, h0, r0⟩ := trodAll_cons hA
  obtain ⟨v1, vs1, d1, ds1, p1, q1, rfl, rfl, rfl, h1, r1⟩ := trodAll_cons r0
  obtain ⟨rfl, rfl, rfl⟩ := trodAll_nil r1
  obtain rfl : args = #[v0, v1] := by cases args; simp_all
  obtain ⟨a0, ha0, hr0⟩ := arg_sym (s := .txt) (ρ := ρ0 W) (hval 0 _ v0 rfl rfl) (by kernel_rfl)
  obtain ⟨x0, hx0, rfl⟩ := ha0
  obtain ⟨a1, ha1, hr1⟩ := arg_sym (s := .num .i64) (ρ := ρ0 W) (hval 1 _ v1 rfl rfl) (by kernel_rfl)
  obtain ⟨x1, hx1, rfl⟩ := ha1
  refine (law_calls (avs := [.sS x0, .sI .i64 x1]) (ran x0 hx0 x1 hx1) ⟨v0, _, rfl, hr0, ⟨v1, _, rfl, hr1, rfl⟩⟩).mono fun e W' ⟨he, hB⟩ => ?_
  subst he
  exact ⟨_, rfl, law_post (tb := 4) laidOut (by rw [Try.params3]; decide +kernel) hW' rfl (by kernel_rfl) (by kernel_rfl) rfl hB⟩

theorem proved : Rows.WalNilSaid :=
  OpenClaim.holds_of_wide 3 Try.f3 rfl rfl rfl rfl rfl rfl rfl ⟨rfl, rfl, rfl, rfl, rfl⟩ rfl rfl rfl rfl rfl (by kernel_rfl) Try.func3 (by kernel_rfl)
    (of_decide_eq_true (by kernel_rfl)) (by unfold Func.isWrapper; first | (rw [if_pos (by decide +kernel)]; kernel_rfl) | (rw [if_neg (by decide +kernel)]; exact ⟨rfl, rfl⟩))
    (fun os started H enc _ => lifted os started H enc)
end Go.Proofs.Ytpbmnmnaidkpkaa.WalNil

namespace Go.Proofs.Ytpbmnmnaidkpkaa
theorem walNilProved : Rows.WalNilSaid := WalNil.proved
#print axioms walNilProved
end Go.Proofs.Ytpbmnmnaidkpkaa
