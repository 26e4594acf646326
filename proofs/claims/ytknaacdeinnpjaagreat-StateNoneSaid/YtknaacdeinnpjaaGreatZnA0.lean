/- A part of the proof that 'reevelaw22.StateNone' returns true for every input: a closed run, call by call. No condition. -/
import Derived.Test.YtknaacdeinnpjaaGreatZnTab
import Derived.Test.YtknaacdeinnpjaaGreatAmJ
import Derived.KernelRfl
namespace Go.Proofs.YtknaacdeinnpjaaGreat.StateNone
open Go.AM
noncomputable section
set_option maxHeartbeats 0
set_option maxRecDepth 1000000
def AZnA0 : List AV := [(.ptr 0 0), (.agg [(.int .u8 1), (.int .u64 7), (.int .u64 1), (.str (u8s [97, 110, 110])), (.int .u8 1), (.int .i64 4), (.int .i64 4), (.int .i64 4), (.int .i64 0), (.str []), (.str []), (.int .u8 0), (.int .i64 0), (.int .i64 0), (.int .i64 0), (.int .i64 0), (.str []), (.int .i64 0), (.int .i64 0), (.str []), (.str []), (.int .i64 0), (.int .i64 0), (.int .i64 0), (.int .i64 0), (.str []), (.int .i64 0), (.str []), (.int .i64 0), (.int .i64 0), (.int .i64 0), (.int .u8 0), (.int .i64 0)])]
def HZnA0 : Heap := { t := (.node .nil (some (.cells false 6 [(.int .i64 0), .nilSlc, .nilSlc, .nilSlc, .nilSlc, .nilSlc] (some 68))) .nil), next := 1 }
def VZnA0 : AV := (.int .i64 0)
def GZnA0 : Heap := { t := (.node (.node (.node (.node (.node .nil none .nil) none (.node .nil none .nil)) none (.node (.node .nil none .nil) none (.node .nil none .nil))) none (.node (.node (.node .nil none .nil) none (.node .nil none .nil)) none (.node (.node .nil none .nil) none (.node .nil (some (.cells false 3 [(.int .u64 7), (.int .u64 1), (.int .i64 0)] (some 66))) .nil)))) (some (.cells false 6 [(.int .i64 0), (.slc 26 0 1 1 false), .nilSlc, .nilSlc, .nilSlc, (.slc 29 0 1 1 false)] (some 68))) (.node (.node (.node (.node .nil none .nil) none (.node .nil none .nil)) none (.node (.node .nil none .nil) none (.node .nil none .nil))) none (.node (.node (.node .nil none .nil) none (.node .nil (some (.cells false 8 [(.str (u8s [97, 110, 110])), (.int .u8 1), (.int .i64 4), (.int .i64 4), (.int .i64 4), (.int .i64 0), (.int .i64 0), (.int .i64 0)] (some 81))) .nil)) none (.node (.node .nil none .nil) none .nil)))), next := 30 }
theorem toldZnA0 : (((∃ _s : One, True ∧ True) ∧ ∃ _s : One, True ∧ True) ∧ ∀ (_s : One), True → True) = vTold Tryz.prog S2 (autoL Tryz.prog S2 3000 [] 6 1) 20000 6 AZnA0 HZnA0 VZnA0 GZnA0 := by kernel_rfl
def CZnA1 (b : SumP) : SumP := recS b 6 AZnA0 HZnA0 VZnA0 GZnA0
def SZnA1 : SumP := CZnA1 S2
theorem SZnA1_ok {B : Nat} : SumPOk Tryz.prog B SZnA1 := recS_ok S2_ok (WF.ofTold (Owe.of toldZnA0 (by repeat' (first | exact trivial | exact rfl | refine ⟨⟨0⟩, ?_⟩ | refine ⟨?_, ?_⟩ | intro _))) mixed S2_ok)
end
end Go.Proofs.YtknaacdeinnpjaaGreat.StateNone
