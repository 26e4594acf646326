/- 'reevelaw26.LeaseKeeps' returns true for every input, and the input reads as it did. No condition. -/
import Derived.Test.YtdeoahhofhmgfaaRows
import Derived.Test.YtdeoahhofhmgfaaLkPf
import Derived.Test.YtdeoahhofhmgfaaLkSum
import Derived.Test.YtdeoahhofhmgfaaAmRow
import Derived.KernelRfl
namespace Go.Proofs.Ytdeoahhofhmgfaa.LeaseKeeps
open Go.ChangeShapes Go.WideShapes Go.ChangeAt Go.RowKit Go.AM

theorem own : ownKnob Try.prog.godebug = none := by kernel_rfl
theorem laidOut : laidOutB Try.prog = true := by kernel_rfl
theorem ran {B : Nat} (length now : Int) (hl : IntKind.u16.has length) (hn : IntKind.u16.has now) (script : List stepR.den) :
    WF Try.prog B 11 [.sI .u16 length, .sI .u16 now, .dsl stepR script] H0 (fun v _ => isB v true) :=
  WF.owe (Owe.of (owed_eq length now (length + 1) script (inv length now script)) (owed_ok length now hl hn script)) mixed sum_ok

set_option maxRecDepth 100000 in
theorem lifted (os : Os) (started : os.Started) (H : Type) (enc : TypeId × Value → H) :
    ReturnsInHanded {} Try.checked os 11 .any (Rows.leaseKeepsSpec.pre6 enc Try.prog Try.f11 Rows.leaseKeepsRow.domain false) (Rows.leaseKeepsSpec.post enc Try.prog Try.f11 false true false false) := by
  refine returnsInHanded_of_change (C := Try.checked) own started (by kernel_rfl) Try.func11
    (ChangeSpec.witness6 (enc := enc) (C := Try.checked) false ⟨#[], #[.int .u16 0, .int .u16 0, .slice none 0 0], []⟩ 8 (by kernel_rfl) (by kernel_rfl) (by kernel_rfl) (by kernel_rfl)) ?_
  intro W base args ds gs before hval0 hW hcnd _
  have hval : ∀ (j : Nat) t v, Try.f11.params[j]? = some t → args[j]? = some v → Value.okWide Try.prog W .any base t v := hval0
  have hW' := hW
  obtain ⟨p, q, hA0, hV, rfl, hfz, hnd⟩ := hW
  have hA : DataW.TrodAll enc Try.prog W 0 (fun _ => true) true Try.f11.params.toList args.toList ds p := hA0
  rw [Try.params11] at hA hval
  obtain ⟨v0, vs0, d0, ds0, p0, q0, hargs, rfl, rfl, h0, r0⟩ := trodAll_cons hA
  obtain ⟨v1, vs1, d1, ds1, p1, q1, rfl, rfl, rfl, h1, r1⟩ := trodAll_cons r0
  obtain ⟨v2, vs2, d2, ds2, p2, q2, rfl, rfl, rfl, h2, r2⟩ := trodAll_cons r1
  obtain ⟨rfl, rfl, rfl⟩ := trodAll_nil r2
  obtain rfl : args = #[v0, v1, v2] := by cases args; simp_all
  obtain ⟨a0, ha0, hr0⟩ := arg_sym (s := .num .u16) (ρ := ρ0 W) (hval 0 _ v0 rfl rfl) (by kernel_rfl)
  obtain ⟨x0, hx0, rfl⟩ := ha0
  obtain ⟨a1, ha1, hr1⟩ := arg_sym (s := .num .u16) (ρ := ρ0 W) (hval 1 _ v1 rfl rfl) (by kernel_rfl)
  obtain ⟨x1, hx1, rfl⟩ := ha1
  obtain ⟨rows, hr2⟩ := slice_sym (r := stepR) (D := 8) h2 (hval 2 _ v2 rfl rfl) (e := 86) (by kernel_rfl) (by kernel_rfl) (by kernel_rfl)
  refine (law_calls (avs := [.sI .u16 x0, .sI .u16 x1, .dsl stepR rows]) (ran x0 x1 hx0 hx1 rows) ⟨v0, _, rfl, hr0, ⟨v1, _, rfl, hr1, ⟨v2, _, rfl, hr2, rfl⟩⟩⟩).mono fun e W' ⟨he, hB⟩ => ?_
  subst he
  exact ⟨_, rfl, law_post (tb := 4) laidOut (by rw [Try.params11]; decide +kernel) hW' rfl (by kernel_rfl) (by kernel_rfl) rfl hB⟩

theorem proved : Rows.LeaseKeepsSaid :=
  OpenClaim.holds_of_wide 11 Try.f11 rfl rfl rfl rfl rfl rfl rfl ⟨rfl, rfl, rfl, rfl, rfl⟩ rfl rfl rfl rfl rfl (by kernel_rfl) Try.func11 (by kernel_rfl)
    (of_decide_eq_true (by kernel_rfl)) (by unfold Func.isWrapper; first | (rw [if_pos (by decide +kernel)]; kernel_rfl) | (rw [if_neg (by decide +kernel)]; exact ⟨rfl, rfl⟩))
    (fun os started H enc _ => lifted os started H enc)
end Go.Proofs.Ytdeoahhofhmgfaa.LeaseKeeps

namespace Go.Proofs.Ytdeoahhofhmgfaa
theorem leaseKeepsProved : Rows.LeaseKeepsSaid := LeaseKeeps.proved
#print axioms leaseKeepsProved
end Go.Proofs.Ytdeoahhofhmgfaa
