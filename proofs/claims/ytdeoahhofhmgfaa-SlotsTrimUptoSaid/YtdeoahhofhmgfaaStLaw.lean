/- 'reevelaw15.SlotsTrim' returns true for every input whose bulk is at most 1048576, and the input reads as it did. -/
import Derived.Test.YtdeoahhofhmgfaaRows
import Derived.Test.YtdeoahhofhmgfaaStSum
import Derived.Test.YtdeoahhofhmgfaaAmRow
import Derived.JoinedCond
import Derived.KernelRfl
namespace Go.Proofs.Ytdeoahhofhmgfaa.SlotsTrim
open Go.ChangeShapes Go.WideShapes Go.ChangeAt Go.RowKit Go.AM

theorem own : ownKnob Try.prog.godebug = none := by kernel_rfl
theorem laidOut : laidOutB Try.prog = true := by kernel_rfl

theorem bulk_texts {H : Type} : ∀ (l : List (List UInt8)), tot l ≤ Rows.uptoBulkAll (H := H) (l.map fun s => .lit (.string s))
  | [] => Nat.zero_le _
  | a :: l => by
    have ih := bulk_texts (H := H) l
    unfold tot at ih ⊢
    simp only [List.map_cons, List.sum_cons, Rows.uptoBulkAll, Rows.uptoBulk]
    omega

set_option maxRecDepth 100000 in
theorem lifted (os : Os) (started : os.Started) (H : Type) (enc : TypeId × Value → H) (F0 : Stop.Interp) :
    ReturnsInHanded {} Try.checked os 8 .any ((Rows.OpenSpec.upto Rows.slotsTrimSpec).pre6 enc Try.prog Try.f8 Rows.slotsTrimUptoRow.domain false) (((Rows.OpenSpec.upto Rows.slotsTrimSpec).at F0).post enc Try.prog Try.f8 false true false false) := by
  refine returnsInHanded_of_cond (C := Try.checked) (s := Rows.OpenSpec.upto Rows.slotsTrimSpec) (k := Rows.uptoSmall) rfl own started (by kernel_rfl) Try.func8
    (OpenSpec.witness (enc := enc) (C := Try.checked) (s := Rows.OpenSpec.upto Rows.slotsTrimSpec) (k := Rows.uptoSmall) rfl false ⟨#[], #[.slice none 0 0, .slice none 0 0, .int .u16 0], []⟩ 8 (by kernel_rfl) (by kernel_rfl) (by kernel_rfl)
      (x := ([.nil, .nil, .lit (.int .u16 0)], [], [])) (by kernel_rfl) (by kernel_rfl) (by kernel_rfl)) ?_
  intro W base args ds gs before hval0 hW _ hk _
  have hval : ∀ (j : Nat) t v, Try.f8.params[j]? = some t → args[j]? = some v → Value.okWide Try.prog W .any base t v := hval0
  have hW' := hW
  obtain ⟨p, q, hA0, hV, rfl, hfz, hnd⟩ := hW
  have hA : DataW.TrodAll enc Try.prog W 0 (fun _ => true) true Try.f8.params.toList args.toList ds p := hA0
  rw [Try.params8] at hA hval
  obtain ⟨rfl, rfl⟩ := trodVars_none hV
  obtain ⟨v0, vs0, d0, ds0, p0, q0, hargs, rfl, rfl, h0, r0⟩ := trodAll_cons hA
  obtain ⟨v1, vs1, d1, ds1, p1, q1, rfl, rfl, rfl, h1, r1⟩ := trodAll_cons r0
  obtain ⟨v2, vs2, d2, ds2, p2, q2, rfl, rfl, rfl, h2, r2⟩ := trodAll_cons r1
  obtain ⟨rfl, rfl, rfl⟩ := trodAll_nil r2
  obtain rfl : args = #[v0, v1, v2] := by cases args; simp_all
  obtain ⟨x0, hr0, hx0⟩ := texts_sym h0 (hval 0 _ v0 rfl rfl) (e := 9) (by kernel_rfl) (by kernel_rfl) (by kernel_rfl)
  obtain ⟨x1, hr1⟩ := slice_sym (r := kR) (D := 8) h1 (hval 1 _ v1 rfl rfl) (e := 4) (by kernel_rfl) (by kernel_rfl) (by kernel_rfl)
  obtain ⟨a2, ha2, hr2⟩ := arg_sym (s := .num .u16) (ρ := ρ0 W) (hval 2 _ v2 rfl rfl) (by kernel_rfl)
  obtain ⟨x2, hx2, rfl⟩ := ha2
  have hT : tot x0 ≤ 1048576 := by
    have hk' : Rows.uptoBulkAll ([d0, d1, d2] ++ []) ≤ 1048576 := of_decide_eq_true hk
    rcases hx0 with ⟨_, rfl⟩ | ⟨sp, rfl⟩
    · exact Nat.zero_le _
    · have := bulk_texts (H := H) x0
      simp only [List.append_nil, Rows.uptoBulkAll, Rows.uptoBulk] at hk'
      omega
  refine (law_calls (avs := [.dsl vR x0, .dsl kR x1, .sI .u16 x2]) (ran x0 hT x1 x2) ⟨v0, _, rfl, hr0, ⟨v1, _, rfl, hr1, ⟨v2, _, rfl, hr2, rfl⟩⟩⟩).mono fun e W' ⟨he, hB⟩ => ?_
  subst he
  exact ⟨_, rfl, law_post (tb := 4) laidOut (by rw [Try.params8]; decide +kernel) hW' rfl (by kernel_rfl) (by kernel_rfl) rfl hB⟩

theorem proved : Rows.SlotsTrimUptoSaid :=
  OpenClaim.holds_of_cond 8 Try.f8 rfl rfl rfl rfl rfl rfl rfl ⟨rfl, rfl, rfl, rfl, rfl⟩ rfl rfl rfl rfl rfl (by kernel_rfl) Try.func8 (by kernel_rfl)
    (of_decide_eq_true (by kernel_rfl)) (by unfold Func.isWrapper; first | (rw [if_pos (by decide +kernel)]; kernel_rfl) | (rw [if_neg (by decide +kernel)]; exact ⟨rfl, rfl⟩))
    (fun os started H enc _ F => by rw [OpenClaim.pre_of_none' rfl]; exact lifted os started H enc F)
end Go.Proofs.Ytdeoahhofhmgfaa.SlotsTrim

namespace Go.Proofs.Ytdeoahhofhmgfaa
theorem slotsTrimProved : Rows.SlotsTrimUptoSaid := SlotsTrim.proved
#print axioms slotsTrimProved
end Go.Proofs.Ytdeoahhofhmgfaa
