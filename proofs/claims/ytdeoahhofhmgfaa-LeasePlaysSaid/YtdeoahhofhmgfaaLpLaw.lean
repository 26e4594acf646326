/- 'reevelaw26.LeasePlays' returns true for every input, and the input reads as it did. No condition. -/
import Derived.Test.YtdeoahhofhmgfaaRows
import Derived.Test.YtdeoahhofhmgfaaLpSum
import Derived.Test.YtdeoahhofhmgfaaAmJ
import Derived.KernelRfl
namespace Go.Proofs.Ytdeoahhofhmgfaa.LeasePlays
open Go.ChangeShapes Go.WideShapes Go.ChangeAt Go.RowKit Go.AM

theorem own : ownKnob Try.prog.godebug = none := by kernel_rfl
theorem laidOut : laidOutB Try.prog = true := by kernel_rfl

set_option maxRecDepth 100000 in
theorem lifted (os : Os) (started : os.Started) (H : Type) (enc : TypeId × Value → H) :
    ReturnsInHanded {} Try.checked os 10 .any (Rows.leasePlaysSpec.pre6 enc Try.prog Try.f10 Rows.leasePlaysRow.domain false) (Rows.leasePlaysSpec.post enc Try.prog Try.f10 false true false false) := by
  refine returnsInHanded_of_change (C := Try.checked) own started (by kernel_rfl) Try.func10
    (ChangeSpec.witness6 (enc := enc) (C := Try.checked) false ⟨#[], #[.int .i64 0, .int .i64 0, .int .i64 0, .agg #[.int .u64 0, .int .i64 0], .int .i64 0, .slice none 0 0], []⟩ 8 (by kernel_rfl) (by kernel_rfl) (by kernel_rfl) (by kernel_rfl)) ?_
  intro W base args ds gs before hval0 hW hcnd _
  have hval : ∀ (j : Nat) t v, Try.f10.params[j]? = some t → args[j]? = some v → Value.okWide Try.prog W .any base t v := hval0
  have hW' := hW
  obtain ⟨p, q, hA0, hV, rfl, hfz, hnd⟩ := hW
  have hA : DataW.TrodAll enc Try.prog W 0 (fun _ => true) true Try.f10.params.toList args.toList ds p := hA0
  rw [Try.params10] at hA hval
  obtain ⟨v0, vs0, d0, ds0, p0, q0, hargs, rfl, rfl, h0, r0⟩ := trodAll_cons hA
  obtain ⟨v1, vs1, d1, ds1, p1, q1, rfl, rfl, rfl, h1, r1⟩ := trodAll_cons r0
  obtain ⟨v2, vs2, d2, ds2, p2, q2, rfl, rfl, rfl, h2, r2⟩ := trodAll_cons r1
  obtain ⟨v3, vs3, d3, ds3, p3, q3, rfl, rfl, rfl, h3, r3⟩ := trodAll_cons r2
  obtain ⟨v4, vs4, d4, ds4, p4, q4, rfl, rfl, rfl, h4, r4⟩ := trodAll_cons r3
  obtain ⟨v5, vs5, d5, ds5, p5, q5, rfl, rfl, rfl, h5, r5⟩ := trodAll_cons r4
  obtain ⟨rfl, rfl, rfl⟩ := trodAll_nil r5
  obtain rfl : args = #[v0, v1, v2, v3, v4, v5] := by cases args; simp_all
  obtain ⟨a0, ha0, hr0⟩ := arg_sym (s := .num .i64) (ρ := ρ0 W) (hval 0 _ v0 rfl rfl) (by kernel_rfl)
  obtain ⟨x0, hx0, rfl⟩ := ha0
  obtain ⟨a1, ha1, hr1⟩ := arg_sym (s := .num .i64) (ρ := ρ0 W) (hval 1 _ v1 rfl rfl) (by kernel_rfl)
  obtain ⟨x1, hx1, rfl⟩ := ha1
  obtain ⟨a2, ha2, hr2⟩ := arg_sym (s := .num .i64) (ρ := ρ0 W) (hval 2 _ v2 rfl rfl) (by kernel_rfl)
  obtain ⟨x2, hx2, rfl⟩ := ha2
  obtain ⟨as3, ha3, hr3⟩ := struct_sym (P := Try.prog) (ss := [.num .u64, .num .i64]) (ρ := ρ0 W) (hval 3 _ v3 rfl rfl) (by kernel_rfl) (by kernel_rfl)
  simp only [IsL, Shp.Is] at ha3
  obtain ⟨_, _, rfl, ⟨x3_0, hx3_0, rfl⟩, ⟨_, _, rfl, ⟨x3_1, hx3_1, rfl⟩, rfl⟩⟩ := ha3
  obtain ⟨a4, ha4, hr4⟩ := arg_sym (s := .num .i64) (ρ := ρ0 W) (hval 4 _ v4 rfl rfl) (by kernel_rfl)
  obtain ⟨x4, hx4, rfl⟩ := ha4
  obtain ⟨x5, hr5⟩ := slice_sym (r := stR) (D := 8) h5 (hval 5 _ v5 rfl rfl) (e := 86) (by kernel_rfl) (by kernel_rfl) (by kernel_rfl)
  refine (law_calls (avs := [.sI .i64 x0, .sI .i64 x1, .sI .i64 x2, .agg [.sI .u64 x3_0, .sI .i64 x3_1], .sI .i64 x4, .dsl stR x5]) (ran x0 hx0 x1 hx1 x2 hx2 x3_0 x3_1 x4 hx4 x5) ⟨v0, _, rfl, hr0, ⟨v1, _, rfl, hr1, ⟨v2, _, rfl, hr2, ⟨v3, _, rfl, hr3, ⟨v4, _, rfl, hr4, ⟨v5, _, rfl, hr5, rfl⟩⟩⟩⟩⟩⟩).mono fun e W' ⟨he, hB⟩ => ?_
  subst he
  exact ⟨_, rfl, law_post (tb := 4) laidOut (by rw [Try.params10]; decide +kernel) hW' rfl (by kernel_rfl) (by kernel_rfl) rfl hB⟩

theorem proved : Rows.LeasePlaysSaid :=
  OpenClaim.holds_of_wide 10 Try.f10 rfl rfl rfl rfl rfl rfl rfl ⟨rfl, rfl, rfl, rfl, rfl⟩ rfl rfl rfl rfl rfl (by kernel_rfl) Try.func10 (by kernel_rfl)
    (of_decide_eq_true (by kernel_rfl)) (by unfold Func.isWrapper; first | (rw [if_pos (by decide +kernel)]; kernel_rfl) | (rw [if_neg (by decide +kernel)]; exact ⟨rfl, rfl⟩))
    (fun os started H enc _ => lifted os started H enc)
end Go.Proofs.Ytdeoahhofhmgfaa.LeasePlays

namespace Go.Proofs.Ytdeoahhofhmgfaa
theorem leasePlaysProved : Rows.LeasePlaysSaid := LeasePlays.proved
#print axioms leasePlaysProved
end Go.Proofs.Ytdeoahhofhmgfaa
