/- 'reeve..LeaseNone' returns true for every input, and the input reads as it did. No condition. -/
import Derived.Test.YtjlincfpdbiloaaRows
import Derived.Test.YtjlincfpdbiloaaAmRow
import Derived.KernelRfl
namespace Go.Proofs.Ytjlincfpdbiloaa.LeaseNone
open Go.ChangeShapes Go.WideShapes Go.ChangeAt Go.RowKit Go.AM

theorem own : ownKnob Try.prog.godebug = none := by kernel_rfl
theorem laidOut : laidOutB Try.prog = true := by kernel_rfl
theorem mixed : Try.prog.follows .mixedOrders = true := by kernel_rfl

theorem ran (x0 : Int) (x1 : Int) (x2 : Int) : okT (run Try.prog noSum 20000 5 [.agg [.sI .u64 x0, .sI .i64 x1], .sI .i64 x2] H0) = true := by kernel_rfl

set_option maxRecDepth 100000 in
theorem lifted (os : Os) (started : os.Started) (H : Type) (enc : TypeId × Value → H) :
    ReturnsInHanded {} Try.checked os 5 .any (Rows.leaseNoneSpec.pre6 enc Try.prog Try.f5 Rows.leaseNoneRow.domain false) (Rows.leaseNoneSpec.post enc Try.prog Try.f5 false true false false) := by
  refine returnsInHanded_of_change (C := Try.checked) own started (by kernel_rfl) Try.func5
    (ChangeSpec.witness6 (enc := enc) (C := Try.checked) false ⟨#[], #[.agg #[.int .u64 0, .int .i64 0], .int .i64 0], []⟩ 8 (by kernel_rfl) (by kernel_rfl) (by kernel_rfl) (by kernel_rfl)) ?_
  intro W base args ds gs before hval0 hW hcnd _
  have hval : ∀ (j : Nat) t v, Try.f5.params[j]? = some t → args[j]? = some v → Value.okWide Try.prog W .any base t v := hval0
  have hW' := hW
  obtain ⟨p, q, hA0, hV, rfl, hfz, hnd⟩ := hW
  have hA : DataW.TrodAll enc Try.prog W 0 (fun _ => true) true Try.f5.params.toList args.toList ds p := hA0
  rw [Try.params5] at hA hval
  obtain ⟨v0, vs0, d0, ds0, p0, q0, hargs, rfl, rfl, h0, r0⟩ := trodAll_cons hA
  obtain ⟨v1, vs1, d1, ds1, p1, q1, rfl, rfl, rfl, h1, r1⟩ := trodAll_cons r0
  obtain ⟨rfl, rfl, rfl⟩ := trodAll_nil r1
  obtain rfl : args = #[v0, v1] := by cases args; simp_all
  obtain ⟨as0, ha0, hr0⟩ := struct_sym (ss := [.num .u64, .num .i64]) (ρ := []) (hval 0 _ v0 rfl rfl) (by kernel_rfl) (by kernel_rfl)
  simp only [IsL, Shp.Is] at ha0
  obtain ⟨_, _, rfl, ⟨x0, _, rfl⟩, ⟨_, _, rfl, ⟨x1, _, rfl⟩, rfl⟩⟩ := ha0
  obtain ⟨a1, ha1, hr1⟩ := arg_sym (s := .num .i64) (ρ := []) (hval 1 _ v1 rfl rfl) (by kernel_rfl)
  obtain ⟨x2, _, rfl⟩ := ha1
  refine (law_calls (avs := [.agg [.sI .u64 x0, .sI .i64 x1], .sI .i64 x2]) (run_true mixed noSum_ok (ran x0 x1 x2)) ⟨v0, _, rfl, hr0, ⟨v1, _, rfl, hr1, rfl⟩⟩).mono fun e W' ⟨he, hB⟩ => ?_
  subst he
  exact ⟨_, rfl, law_post (tb := 4) laidOut (by rw [Try.params5]; decide +kernel) hW' rfl (by kernel_rfl) (by kernel_rfl) rfl hB⟩

theorem proved : Rows.LeaseNoneSaid :=
  OpenClaim.holds_of_wide 5 Try.f5 rfl rfl rfl rfl rfl rfl rfl ⟨rfl, rfl, rfl, rfl, rfl⟩ rfl rfl rfl rfl rfl (by kernel_rfl) Try.func5 (by kernel_rfl)
    (of_decide_eq_true (by kernel_rfl)) (by unfold Func.isWrapper; first | (rw [if_pos (by decide +kernel)]; kernel_rfl) | (rw [if_neg (by decide +kernel)]; exact ⟨rfl, rfl⟩))
    (fun os started H enc _ => lifted os started H enc)
end Go.Proofs.Ytjlincfpdbiloaa.LeaseNone

namespace Go.Proofs.Ytjlincfpdbiloaa
theorem leaseNoneProved : Rows.LeaseNoneSaid := LeaseNone.proved
#print axioms leaseNoneProved
end Go.Proofs.Ytjlincfpdbiloaa
