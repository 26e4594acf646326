/- 'reevelaw15.SlotsNone' returns true for every input, and the input reads as it did. No condition. -/
import Derived.Test.YthiiijglmplghaaRows
import Derived.Test.YthiiijglmplghaaAmRow
import Derived.KernelRfl
namespace Go.Proofs.Ythiiijglmplghaa.SlotsNone
open Go.ChangeShapes Go.WideShapes Go.ChangeAt Go.RowKit Go.AM Go.ChangeMaps

theorem own : ownKnob Try.prog.godebug = none := by kernel_rfl
theorem laidOut : laidOutB Try.prog = true := by kernel_rfl
theorem mixed : Try.prog.follows .mixedOrders = true := by kernel_rfl

theorem ran (n : Int) (s : List UInt8) : okT (run Try.prog noSum 10000 4 [.sI .u64 n, .sS s] H0) = true := by kernel_rfl

theorem walk (n : Int) (s : ByteArray) (W : World) : Calls Try.prog 4 #[.int .u64 n, .string s] W fun e W' => e = .returned (.bool true) ∧ Below W.heap.size W W' :=
  law_calls (avs := [.sI .u64 n, .sS s.data.toList]) (run_true mixed noSum_ok (ran n _)) ⟨_, _, rfl, rfl, _, _, rfl, rel_bytes _ s, rfl⟩

set_option maxRecDepth 100000 in
theorem lifted (os : Os) (started : os.Started) (H : Type) (enc : TypeId × Value → H) :
    ReturnsInHanded {} Try.checked os 4 .any (Rows.slotsNoneSpec.pre6 enc Try.prog Try.f4 Rows.slotsNoneRow.domain false) (Rows.slotsNoneSpec.post enc Try.prog Try.f4 false true false false) := by
  refine returnsInHanded_of_change (C := Try.checked) own started (by kernel_rfl) Try.func4
    (ChangeSpec.witness6 (enc := enc) (C := Try.checked) false ⟨#[], #[.int .u64 0, .string ⟨#[]⟩], []⟩ 8 (by kernel_rfl) (by kernel_rfl) (by kernel_rfl) (by kernel_rfl)) ?_
  intro W base args ds gs before hval0 hW hcnd _
  have hval : ∀ (j : Nat) t v, Try.f4.params[j]? = some t → args[j]? = some v → Value.okWide Try.prog W .any base t v := hval0
  have hW' := hW
  obtain ⟨p, q, hA0, hV, rfl, hfz, hnd⟩ := hW
  have hA : DataW.TrodAll enc Try.prog W 0 (fun _ => true) true Try.f4.params.toList args.toList ds p := hA0
  rw [Try.params4] at hA hval
  obtain ⟨v0, v1, d0, d1, p0, p1, rfl, rfl, rfl, h0, h1⟩ := trodAll_two hA
  obtain ⟨n, rfl, rfl, rfl, w0⟩ := open_int (k := .u64) (by kernel_rfl) (hval 0 _ v0 rfl rfl) h0
  obtain ⟨s, rfl, rfl, rfl, w1⟩ := open_string (by kernel_rfl) (hval 1 _ v1 rfl rfl) h1
  clear hA0 hval0
  refine (walk n s W).mono fun e W' ⟨he, hB⟩ => ?_
  subst he
  exact ⟨_, rfl, law_post (tb := 4) laidOut (by rw [Try.params4]; decide +kernel) hW' rfl (by kernel_rfl) (by kernel_rfl) rfl hB⟩

theorem proved : Rows.SlotsNoneSaid :=
  OpenClaim.holds_of_wide 4 Try.f4 rfl rfl rfl rfl rfl rfl rfl ⟨rfl, rfl, rfl, rfl, rfl⟩ rfl rfl rfl rfl rfl (by kernel_rfl) Try.func4 (by kernel_rfl)
    (of_decide_eq_true (by kernel_rfl)) (by unfold Func.isWrapper; first | (rw [if_pos (by decide +kernel)]; kernel_rfl) | (rw [if_neg (by decide +kernel)]; exact ⟨rfl, rfl⟩))
    (fun os started H enc _ => lifted os started H enc)

end Go.Proofs.Ythiiijglmplghaa.SlotsNone

namespace Go.Proofs.Ythiiijglmplghaa
theorem slotsNoneProved : Rows.SlotsNoneSaid := SlotsNone.proved
#print axioms slotsNoneProved
end Go.Proofs.Ythiiijglmplghaa
