/- 'reevelaw07.CkptNil' returns true for every input, and the input reads as it did, where the two listed tables of unicode/utf8 hold what the program's text lays there; the card ties that. No other condition. -/
import Derived.Test.YtkcflepmingghaaDoorRows
import Derived.Test.YtkcflepmingghaaDoorCards
import Derived.Test.YtkcflepmingghaaDoorTie
import Derived.Test.YtkcflepmingghaaDoorAmJ
import Derived.Test.YtkcflepmingghaaDoorCkSum
import Derived.KernelRfl
import Derived.LaidLaws
import Derived.LaidHandle
import Derived.Lay
import Derived.MakeChecks
import Derived.Stop.Joined
import Derived.SevenTiedAt
namespace Go.Proofs.YtkcflepmingghaaDoor.CkptNil
open Go.ChangeShapes Go.WideShapes Go.ChangeAt Go.RowKit Go.AM
theorem own : ownKnob Tryd.prog.godebug = none := by kernel_rfl
theorem laidOut : laidOutB Tryd.prog = true := by kernel_rfl
theorem laid_met (os : Os) (args : Array Value) : laidMetH Tryd.prog Rows.ckptNilRow.laid ((World.laidAll Tryd.prog os Rows.ckptNilRow.laid).forCall (fun _ _ => 0) ⟨#[], args, []⟩).memory := by
  rw [Go.MakeChecks.laidMetH_plain _ _ _ (by kernel_rfl)]
  exact laidMet_laidAll args (by kernel_rfl) (by kernel_rfl)
set_option maxRecDepth 100000 in
theorem lifted (os : Os) (started : os.Started) (H : Type) (enc : TypeId × Value → H) :
    ReturnsInHanded {} Tryd.checked os 3 .any (fun w args => (Rows.ckptNilSpec.pre enc Tryd.prog Tryd.f3 [] false w args ∧ laidMetH Tryd.prog Rows.ckptNilRow.laid w) ∧ sizedMet enc Tryd.prog Tryd.f3 (OpenSpec.ofChange Rows.ckptNilSpec) false w args)
      (Rows.ckptNilSpec.post enc Tryd.prog Tryd.f3 false true false false) := by
  refine returnsInHanded_of_change_and (C := Tryd.checked) (X := fun w _ => laidMetH Tryd.prog Rows.ckptNilRow.laid w) (fun _ _ _ hh h => h.of_heap hh) own started (by kernel_rfl) Tryd.func3
    (ChangeSpec.witness_at (enc := enc) (C := Tryd.checked) (os := os) (X := fun w _ => laidMetH Tryd.prog Rows.ckptNilRow.laid w) false (World.laidAll Tryd.prog os Rows.ckptNilRow.laid) #[.int .i64 0, .int .u64 0, .string ⟨#[]⟩] 8 (World.laidAll_os ..) (by kernel_rfl) (by kernel_rfl) (by kernel_rfl) (by kernel_rfl) (by kernel_rfl) (laid_met os _)) ?_
  intro W base args ds gs before hval0 hW hcnd _ _ _
  have hval : ∀ (j : Nat) t v, Tryd.f3.params[j]? = some t → args[j]? = some v → Value.okWide Tryd.prog W .any base t v := hval0
  have hW' := hW
  obtain ⟨p, q, hA0, hV, rfl, hfz, hnd⟩ := hW
  have hA : DataW.TrodAll enc Tryd.prog W 0 (fun _ => true) true Tryd.f3.params.toList args.toList ds p := hA0
  rw [Tryd.params3] at hA hval
  obtain ⟨v0, vs0, d0, ds0, p0, q0, hargs, rfl, rfl, h0, r0⟩ := trodAll_cons hA
  obtain ⟨v1, vs1, d1, ds1, p1, q1, rfl, rfl, rfl, h1, r1⟩ := trodAll_cons r0
  obtain ⟨v2, vs2, d2, ds2, p2, q2, rfl, rfl, rfl, h2, r2⟩ := trodAll_cons r1
  obtain ⟨rfl, rfl, rfl⟩ := trodAll_nil r2
  obtain rfl : args = #[v0, v1, v2] := by cases args; simp_all
  obtain ⟨a0, ha0, hr0⟩ := arg_sym (s := .num .i64) (ρ := ρ0 W) (hval 0 _ v0 rfl rfl) (by kernel_rfl)
  obtain ⟨x0, hx0, rfl⟩ := ha0
  obtain ⟨a1, ha1, hr1⟩ := arg_sym (s := .num .u64) (ρ := ρ0 W) (hval 1 _ v1 rfl rfl) (by kernel_rfl)
  obtain ⟨x1, hx1, rfl⟩ := ha1
  obtain ⟨a2, ha2, hr2⟩ := arg_sym (s := .txt) (ρ := ρ0 W) (hval 2 _ v2 rfl rfl) (by kernel_rfl)
  obtain ⟨x2, hx2, rfl⟩ := ha2
  refine (law_calls (avs := [.sI .i64 x0, .sI .u64 x1, .sS x2]) (ran x0 hx0 x1 hx1 x2 hx2) ⟨v0, _, rfl, hr0, ⟨v1, _, rfl, hr1, ⟨v2, _, rfl, hr2, rfl⟩⟩⟩).mono fun e W' ⟨he, hB⟩ => ?_
  subst he
  exact ⟨_, rfl, law_post (tb := 4) laidOut (by rw [Tryd.params3]; decide +kernel) hW' rfl (by kernel_rfl) (by kernel_rfl) rfl hB⟩

theorem proved : Rows.CkptNilSaid :=
  OpenClaim.holds_of_wide 3 Tryd.f3 rfl rfl rfl rfl rfl rfl rfl ⟨rfl, rfl, rfl, rfl, rfl⟩ rfl rfl rfl rfl rfl (by kernel_rfl) Tryd.func3 (by kernel_rfl)
    (of_decide_eq_true (by kernel_rfl)) (by unfold Func.isWrapper; first | (rw [if_pos (by decide +kernel)]; kernel_rfl) | (rw [if_neg (by decide +kernel)]; exact ⟨rfl, rfl⟩))
    (fun os started H enc _ => lifted os started H enc)
theorem card : Rows.CkptNilCardSaid :=
  Claim7.holds_tied_plain_at .later [] [.data, .pinned] true (true, "a57395795b967666c38c15917d7db23a5a7060e1a8f28ad9eb620a62b5edf1ac") false
    proved (fun _ h => by cases h) (by kernel_rfl) (fun _ h => by cases h) ckptNil_row_tie rfl ⟨rfl, rfl⟩ (by kernel_rfl) rfl
    (fun f fn hf hfn => by
      obtain rfl : f = 3 := Option.some.inj ((show Tryd.prog.funcNamed "reeve/reevelaw07.CkptNil" = some 3 by kernel_rfl).symm.trans hf) |>.symm
      obtain rfl : fn = Tryd.f3 := (Option.some.inj (Tryd.func3.symm.trans hfn)).symm
      refine ⟨by kernel_rfl, fun j t ht => ?_⟩
      rw [Tryd.params3] at ht
      have hm := Array.mem_of_getElem? ht
      simp only [List.mem_toArray, List.mem_cons, List.mem_nil_iff, or_false] at hm
      rcases hm with rfl | rfl | rfl
      · exact (show Tryd.prog.wantsStandIn 3 = false by kernel_rfl)
      · exact (show Tryd.prog.wantsStandIn 22 = false by kernel_rfl)
      · exact (show Tryd.prog.wantsStandIn 9 = false by kernel_rfl))
    (by kernel_rfl)
end Go.Proofs.YtkcflepmingghaaDoor.CkptNil

namespace Go.Proofs.YtkcflepmingghaaDoor
theorem ckptNilProved : Rows.CkptNilCardSaid := CkptNil.card
#print axioms ckptNilProved
end Go.Proofs.YtkcflepmingghaaDoor
