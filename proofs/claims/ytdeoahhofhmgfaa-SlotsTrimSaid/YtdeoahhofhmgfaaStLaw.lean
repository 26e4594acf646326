/- 'reevelaw15.SlotsTrim' returns true for every input, and the input reads as it did. No condition. -/
import Derived.Test.YtdeoahhofhmgfaaRows
import Derived.Test.YtdeoahhofhmgfaaStSum
import Derived.Test.YtdeoahhofhmgfaaAmJ
import Derived.SizedLaws
import Derived.KernelRfl
namespace Go.Proofs.Ytdeoahhofhmgfaa.SlotsTrim
open Go.ChangeShapes Go.WideShapes Go.ChangeAt Go.RowKit Go.AM

theorem own : ownKnob Try.prog.godebug = none := by kernel_rfl
theorem laidOut : laidOutB Try.prog = true := by kernel_rfl

set_option maxRecDepth 100000 in
theorem lifted (os : Os) (started : os.Started) (H : Type) (enc : TypeId × Value → H) :
    ReturnsInHanded {} Try.checked os 8 .any (Rows.slotsTrimSpec.pre6 enc Try.prog Try.f8 Rows.slotsTrimRow.domain false) (Rows.slotsTrimSpec.post enc Try.prog Try.f8 false true false false) := by
  refine returnsInHanded_of_change_sized (C := Try.checked) own started (by kernel_rfl) Try.func8
    (ChangeSpec.witness6 (enc := enc) (C := Try.checked) false ⟨#[], #[.slice none 0 0, .slice none 0 0, .int .u16 0], []⟩ 8 (by kernel_rfl) (by kernel_rfl) (by kernel_rfl) (by kernel_rfl)) ?_
  intro W base args ds gs before hval0 hW hcnd hwt _
  have hval : ∀ (j : Nat) t v, Try.f8.params[j]? = some t → args[j]? = some v → Value.okWide Try.prog W .any base t v := hval0
  have hW' := hW
  obtain ⟨p, q, hA0, hV, rfl, hfz, hnd⟩ := hW
  have hA : DataW.TrodAll enc Try.prog W 0 (fun _ => true) true Try.f8.params.toList args.toList ds p := hA0
  rw [Try.params8] at hA hval
  obtain ⟨v0, vs0, d0, ds0, p0, q0, hargs, rfl, rfl, h0, r0⟩ := trodAll_cons hA
  obtain ⟨v1, vs1, d1, ds1, p1, q1, rfl, rfl, rfl, h1, r1⟩ := trodAll_cons r0
  obtain ⟨v2, vs2, d2, ds2, p2, q2, rfl, rfl, rfl, h2, r2⟩ := trodAll_cons r1
  obtain ⟨rfl, rfl, rfl⟩ := trodAll_nil r2
  obtain rfl : args = #[v0, v1, v2] := by cases args; simp_all
  obtain ⟨x0, hr0, hd0⟩ := texts_sym h0 (hval 0 _ v0 rfl rfl) (e := 9) (by kernel_rfl) (by kernel_rfl) (by kernel_rfl)
  have hl0 : ∀ r ∈ x0, r.length ≤ 140737488355328 := fun r hr => Nat.le_trans (texts_le (P := Try.prog) (e := 9) (by kernel_rfl) (fun n hn => by
    rw [List.all_eq_true] at hwt
    refine of_decide_eq_true (hwt n ?_)
    rw [Try.params8]
    simp only [List.cons_append, List.nil_append, DataW.weightsEach, List.mem_append]
    exact .inl hn) hd0 r hr) (by decide)
  obtain ⟨x1, hr1⟩ := slice_sym (r := kR) (D := 8) h1 (hval 1 _ v1 rfl rfl) (e := 4) (by kernel_rfl) (by kernel_rfl) (by kernel_rfl)
  obtain ⟨a2, ha2, hr2⟩ := arg_sym (s := .num .u16) (ρ := ρ0 W) (hval 2 _ v2 rfl rfl) (by kernel_rfl)
  obtain ⟨x2, hx2, rfl⟩ := ha2
  refine (law_calls (avs := [.dsl (.one .txt) x0, .dsl kR x1, .sI .u16 x2]) (ran x0 hl0 x1 x2 hx2) ⟨v0, _, rfl, hr0, ⟨v1, _, rfl, hr1, ⟨v2, _, rfl, hr2, rfl⟩⟩⟩).mono fun e W' ⟨he, hB⟩ => ?_
  subst he
  exact ⟨_, rfl, law_post (tb := 4) laidOut (by rw [Try.params8]; decide +kernel) hW' rfl (by kernel_rfl) (by kernel_rfl) rfl hB⟩

theorem proved : Rows.SlotsTrimSaid :=
  OpenClaim.holds_of_wide 8 Try.f8 rfl rfl rfl rfl rfl rfl rfl ⟨rfl, rfl, rfl, rfl, rfl⟩ rfl rfl rfl rfl rfl (by kernel_rfl) Try.func8 (by kernel_rfl)
    (of_decide_eq_true (by kernel_rfl)) (by unfold Func.isWrapper; first | (rw [if_pos (by decide +kernel)]; kernel_rfl) | (rw [if_neg (by decide +kernel)]; exact ⟨rfl, rfl⟩))
    (fun os started H enc _ => lifted os started H enc)
end Go.Proofs.Ytdeoahhofhmgfaa.SlotsTrim

namespace Go.Proofs.Ytdeoahhofhmgfaa
theorem slotsTrimProved : Rows.SlotsTrimSaid := SlotsTrim.proved
#print axioms slotsTrimProved
end Go.Proofs.Ytdeoahhofhmgfaa
