/- 'reevelaw28.ShardDiffs' returns true for every input, and the input reads as it did. No condition. -/
import Derived.Test.YtdohdhphpjhcjaaRows
import Derived.Test.YtdohdhphpjhcjaaDfSum
import Derived.Test.YtdohdhphpjhcjaaAmJ
import Derived.SizedLaws
import Derived.KernelRfl
namespace Go.Proofs.Ytdohdhphpjhcjaa.ShardDiffs
open Go.ChangeShapes Go.WideShapes Go.ChangeAt Go.RowKit Go.AM

theorem own : ownKnob Try.prog.godebug = none := by kernel_rfl
theorem laidOut : laidOutB Try.prog = true := by kernel_rfl

set_option maxRecDepth 100000 in
theorem lifted (os : Os) (started : os.Started) (H : Type) (enc : TypeId × Value → H) :
    ReturnsInHanded {} Try.checked os 3 .any (Rows.shardDiffsSpec.pre6 enc Try.prog Try.f3 Rows.shardDiffsRow.domain false) (Rows.shardDiffsSpec.post enc Try.prog Try.f3 false true false false) := by
  refine returnsInHanded_of_change_sized (C := Try.checked) own started (by kernel_rfl) Try.func3
    (ChangeSpec.witness6 (enc := enc) (C := Try.checked) false ⟨#[], #[.int .i64 0, .int .i64 0, .slice none 0 0], []⟩ 8 (by kernel_rfl) (by kernel_rfl) (by kernel_rfl) (by kernel_rfl)) ?_
  intro W base args ds gs before hval0 hW hcnd hwt _
  have hval : ∀ (j : Nat) t v, Try.f3.params[j]? = some t → args[j]? = some v → Value.okWide Try.prog W .any base t v := hval0
  have hW' := hW
  obtain ⟨p, q, hA0, hV, rfl, hfz, hnd⟩ := hW
  have hA : DataW.TrodAll enc Try.prog W 0 (fun _ => true) true Try.f3.params.toList args.toList ds p := hA0
  rw [Try.params3] at hA hval
  obtain ⟨v0, vs0, d0, ds0, p0, q0, hargs, rfl, rfl, h0, r0⟩ := trodAll_cons hA
  obtain ⟨v1, vs1, d1, ds1, p1, q1, rfl, rfl, rfl, h1, r1⟩ := trodAll_cons r0
  obtain ⟨v2, vs2, d2, ds2, p2, q2, rfl, rfl, rfl, h2, r2⟩ := trodAll_cons r1
  obtain ⟨rfl, rfl, rfl⟩ := trodAll_nil r2
  obtain rfl : args = #[v0, v1, v2] := by cases args; simp_all
  obtain ⟨a0, ha0, hr0⟩ := arg_sym (s := .num .i64) (ρ := ρ0 W) (hval 0 _ v0 rfl rfl) (by kernel_rfl)
  obtain ⟨x0, hx0, rfl⟩ := ha0
  obtain ⟨a1, ha1, hr1⟩ := arg_sym (s := .num .i64) (ρ := ρ0 W) (hval 1 _ v1 rfl rfl) (by kernel_rfl)
  obtain ⟨x1, hx1, rfl⟩ := ha1
  obtain ⟨x2, hr2, hd2⟩ := slices_sym (r := Sh.rowR) (D := 8) h2 (hval 2 _ v2 rfl rfl) (e := 23) (e2 := 30) (by kernel_rfl) (by kernel_rfl) (by kernel_rfl) (by kernel_rfl) (by kernel_rfl)
  have hl2 : ∀ r ∈ x2, r.length ≤ 140737488355328 := fun r hr => Nat.le_trans (rows_le (P := Try.prog) (e := 23) (e2 := 30) (by kernel_rfl) (by kernel_rfl) (by kernel_rfl) (fun n hn => by
    rw [List.all_eq_true] at hwt
    refine of_decide_eq_true (hwt n ?_)
    rw [Try.params3]
    simp only [List.cons_append, List.nil_append, DataW.weightsEach, List.mem_append]
    exact .inr (.inr (.inl hn))) hd2 r hr) (by decide)
  refine (law_calls (avs := [.sI .i64 x0, .sI .i64 x1, .dsl (.one (.sl Sh.rowR)) x2]) (ran x0 hx0 x1 hx1 x2 hl2) ⟨v0, _, rfl, hr0, ⟨v1, _, rfl, hr1, ⟨v2, _, rfl, hr2, rfl⟩⟩⟩).mono fun e W' ⟨he, hB⟩ => ?_
  subst he
  exact ⟨_, rfl, law_post (tb := 4) laidOut (by rw [Try.params3]; decide +kernel) hW' rfl (by kernel_rfl) (by kernel_rfl) rfl hB⟩

theorem proved : Rows.ShardDiffsSaid :=
  OpenClaim.holds_of_wide 3 Try.f3 rfl rfl rfl rfl rfl rfl rfl ⟨rfl, rfl, rfl, rfl, rfl⟩ rfl rfl rfl rfl rfl (by kernel_rfl) Try.func3 (by kernel_rfl)
    (of_decide_eq_true (by kernel_rfl)) (by unfold Func.isWrapper; first | (rw [if_pos (by decide +kernel)]; kernel_rfl) | (rw [if_neg (by decide +kernel)]; exact ⟨rfl, rfl⟩))
    (fun os started H enc _ => lifted os started H enc)
end Go.Proofs.Ytdohdhphpjhcjaa.ShardDiffs

namespace Go.Proofs.Ytdohdhphpjhcjaa
theorem shardDiffsProved : Rows.ShardDiffsSaid := ShardDiffs.proved
#print axioms shardDiffsProved
end Go.Proofs.Ytdohdhphpjhcjaa
