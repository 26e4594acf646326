/- 'reevelaw22.StateNone' returns true for every input, and the input reads as it did. No condition. -/
import Derived.Test.YtknaacdeinnpjaaGreatRows
import Derived.Test.YtknaacdeinnpjaaGreatZnSum
import Derived.Test.YtknaacdeinnpjaaGreatAmJ
import Derived.KernelRfl
namespace Go.Proofs.YtknaacdeinnpjaaGreat.StateNone
open Go.ChangeShapes Go.WideShapes Go.ChangeAt Go.RowKit Go.AM

theorem own : ownKnob Tryz.prog.godebug = none := by kernel_rfl
theorem laidOut : laidOutB Tryz.prog = true := by kernel_rfl

set_option maxRecDepth 100000 in
theorem lifted (os : Os) (started : os.Started) (H : Type) (enc : TypeId × Value → H) :
    ReturnsInHanded {} Tryz.checked os 3 .any (Rows.stateNoneSpec.pre6 enc Tryz.prog Tryz.f3 Rows.stateNoneRow.domain false) (Rows.stateNoneSpec.post enc Tryz.prog Tryz.f3 false true false false) := by
  refine returnsInHanded_of_change (C := Tryz.checked) own started (by kernel_rfl) Tryz.func3
    (ChangeSpec.witness6 (enc := enc) (C := Tryz.checked) false ⟨#[], #[.agg #[.int .u8 0, .int .u64 0, .int .u64 0, .string ⟨#[]⟩, .int .u8 0, .int .i64 0, .int .i64 0, .int .i64 0, .int .i64 0, .string ⟨#[]⟩, .string ⟨#[]⟩, .int .u8 0, .int .i64 0, .int .i64 0, .int .i64 0, .int .i64 0, .string ⟨#[]⟩, .int .i64 0, .int .i64 0, .string ⟨#[]⟩, .string ⟨#[]⟩, .int .i64 0, .int .i64 0, .int .i64 0, .int .i64 0, .string ⟨#[]⟩, .int .i64 0, .string ⟨#[]⟩, .int .i64 0, .int .i64 0, .int .i64 0, .int .u8 0, .int .i64 0]], []⟩ 8 (by kernel_rfl) (by kernel_rfl) (by kernel_rfl) (by kernel_rfl)) ?_
  intro W base args ds gs before hval0 hW hcnd _
  have hval : ∀ (j : Nat) t v, Tryz.f3.params[j]? = some t → args[j]? = some v → Value.okWide Tryz.prog W .any base t v := hval0
  have hW' := hW
  obtain ⟨p, q, hA0, hV, rfl, hfz, hnd⟩ := hW
  have hA : DataW.TrodAll enc Tryz.prog W 0 (fun _ => true) true Tryz.f3.params.toList args.toList ds p := hA0
  rw [Tryz.params3] at hA hval
  obtain ⟨v0, vs0, d0, ds0, p0, q0, hargs, rfl, rfl, h0, r0⟩ := trodAll_cons hA
  obtain ⟨rfl, rfl, rfl⟩ := trodAll_nil r0
  obtain rfl : args = #[v0] := by cases args; simp_all
  obtain ⟨as0, ha0, hr0⟩ := struct_sym (P := Tryz.prog) (ss := [.num .u8, .num .u64, .num .u64, .txt, .num .u8, .num .i64, .num .i64, .num .i64, .num .i64, .txt, .txt, .num .u8, .num .i64, .num .i64, .num .i64, .num .i64, .txt, .num .i64, .num .i64, .txt, .txt, .num .i64, .num .i64, .num .i64, .num .i64, .txt, .num .i64, .txt, .num .i64, .num .i64, .num .i64, .num .u8, .num .i64]) (ρ := ρ0 W) (hval 0 _ v0 rfl rfl) (by kernel_rfl) (by kernel_rfl)
  simp only [IsL, Shp.Is] at ha0
  obtain ⟨_, _, rfl, ⟨x0_0, hx0_0, rfl⟩, ⟨_, _, rfl, ⟨x0_1, hx0_1, rfl⟩, ⟨_, _, rfl, ⟨x0_2, hx0_2, rfl⟩, ⟨_, _, rfl, ⟨x0_3, hx0_3, rfl⟩, ⟨_, _, rfl, ⟨x0_4, hx0_4, rfl⟩, ⟨_, _, rfl, ⟨x0_5, hx0_5, rfl⟩, ⟨_, _, rfl, ⟨x0_6, hx0_6, rfl⟩, ⟨_, _, rfl, ⟨x0_7, hx0_7, rfl⟩, ⟨_, _, rfl, ⟨x0_8, hx0_8, rfl⟩, ⟨_, _, rfl, ⟨x0_9, hx0_9, rfl⟩, ⟨_, _, rfl, ⟨x0_10, hx0_10, rfl⟩, ⟨_, _, rfl, ⟨x0_11, hx0_11, rfl⟩, ⟨_, _, rfl, ⟨x0_12, hx0_12, rfl⟩, ⟨_, _, rfl, ⟨x0_13, hx0_13, rfl⟩, ⟨_, _, rfl, ⟨x0_14, hx0_14, rfl⟩, ⟨_, _, rfl, ⟨x0_15, hx0_15, rfl⟩, ⟨_, _, rfl, ⟨x0_16, hx0_16, rfl⟩, ⟨_, _, rfl, ⟨x0_17, hx0_17, rfl⟩, ⟨_, _, rfl, ⟨x0_18, hx0_18, rfl⟩, ⟨_, _, rfl, ⟨x0_19, hx0_19, rfl⟩, ⟨_, _, rfl, ⟨x0_20, hx0_20, rfl⟩, ⟨_, _, rfl, ⟨x0_21, hx0_21, rfl⟩, ⟨_, _, rfl, ⟨x0_22, hx0_22, rfl⟩, ⟨_, _, rfl, ⟨x0_23, hx0_23, rfl⟩, ⟨_, _, rfl, ⟨x0_24, hx0_24, rfl⟩, ⟨_, _, rfl, ⟨x0_25, hx0_25, rfl⟩, ⟨_, _, rfl, ⟨x0_26, hx0_26, rfl⟩, ⟨_, _, rfl, ⟨x0_27, hx0_27, rfl⟩, ⟨_, _, rfl, ⟨x0_28, hx0_28, rfl⟩, ⟨_, _, rfl, ⟨x0_29, hx0_29, rfl⟩, ⟨_, _, rfl, ⟨x0_30, hx0_30, rfl⟩, ⟨_, _, rfl, ⟨x0_31, hx0_31, rfl⟩, ⟨_, _, rfl, ⟨x0_32, hx0_32, rfl⟩, rfl⟩⟩⟩⟩⟩⟩⟩⟩⟩⟩⟩⟩⟩⟩⟩⟩⟩⟩⟩⟩⟩⟩⟩⟩⟩⟩⟩⟩⟩⟩⟩⟩⟩ := ha0
  refine (law_calls (avs := [.agg [.sI .u8 x0_0, .sI .u64 x0_1, .sI .u64 x0_2, .sS x0_3, .sI .u8 x0_4, .sI .i64 x0_5, .sI .i64 x0_6, .sI .i64 x0_7, .sI .i64 x0_8, .sS x0_9, .sS x0_10, .sI .u8 x0_11, .sI .i64 x0_12, .sI .i64 x0_13, .sI .i64 x0_14, .sI .i64 x0_15, .sS x0_16, .sI .i64 x0_17, .sI .i64 x0_18, .sS x0_19, .sS x0_20, .sI .i64 x0_21, .sI .i64 x0_22, .sI .i64 x0_23, .sI .i64 x0_24, .sS x0_25, .sI .i64 x0_26, .sS x0_27, .sI .i64 x0_28, .sI .i64 x0_29, .sI .i64 x0_30, .sI .u8 x0_31, .sI .i64 x0_32]]) (ran x0_0 x0_1 x0_2 x0_3 x0_4 x0_5 x0_6 x0_7 x0_8 x0_9 x0_10 x0_11 x0_12 x0_13 x0_14 x0_15 x0_16 x0_17 x0_18 x0_19 x0_20 x0_21 x0_22 x0_23 x0_24 x0_25 x0_26 x0_27 x0_28 x0_29 x0_30 x0_31 x0_32) ⟨v0, _, rfl, hr0, rfl⟩).mono fun e W' ⟨he, hB⟩ => ?_
  subst he
  exact ⟨_, rfl, law_post (tb := 4) laidOut (by rw [Tryz.params3]; decide +kernel) hW' rfl (by kernel_rfl) (by kernel_rfl) rfl hB⟩

theorem proved : Rows.StateNoneSaid :=
  OpenClaim.holds_of_wide 3 Tryz.f3 rfl rfl rfl rfl rfl rfl rfl ⟨rfl, rfl, rfl, rfl, rfl⟩ rfl rfl rfl rfl rfl (by kernel_rfl) Tryz.func3 (by kernel_rfl)
    (of_decide_eq_true (by kernel_rfl)) (by unfold Func.isWrapper; first | (rw [if_pos (by decide +kernel)]; kernel_rfl) | (rw [if_neg (by decide +kernel)]; exact ⟨rfl, rfl⟩))
    (fun os started H enc _ => lifted os started H enc)
end Go.Proofs.YtknaacdeinnpjaaGreat.StateNone

namespace Go.Proofs.YtknaacdeinnpjaaGreat
theorem stateNoneProved : Rows.StateNoneSaid := StateNone.proved
#print axioms stateNoneProved
end Go.Proofs.YtknaacdeinnpjaaGreat
