/- A part of the proof that 'reevelaw07.CkptNil' returns true for every input: a closed run, call by call. No condition. -/
import Derived.Test.YtkcflepmingghaaDoorCkR0
import Derived.Test.YtkcflepmingghaaDoorAmJ
import Derived.KernelRfl
namespace Go.Proofs.YtkcflepmingghaaDoor.CkptNil
open Go.AM
noncomputable section
set_option maxHeartbeats 0
set_option maxRecDepth 1000000
def ACkR1 : List AV := [(.ptr 1 0), (.int .i64 0), (.int .i64 4)]
def HCkR1 : Heap := { t := (.node (.node .nil (some (.cells false 4 [(.slc 0 0 4 4 true), .nilSlc, (.bool false), (.int .i64 0)] (some 75))) .nil) (some (.cells false 256 (rp 1024 (.int .u8 0) []) (some 77))) .nil), next := 2 }
def VCkR1 : AV := (.tup [(.int .u64 0), (.str []), (.int .i64 5)])
def GCkR1 : Heap := { t := (.node (.node (.node (.node .nil none .nil) none .nil) (some (.cells false 4 [(.slc 0 0 4 4 true), .nilSlc, (.bool false), (.int .i64 0)] (some 75))) (.node (.node .nil none .nil) none .nil)) (some (.cells false 256 (rp 1024 (.int .u8 0) []) (some 77))) (.node (.node (.node .nil none .nil) none .nil) none (.node (.node .nil none .nil) none .nil))), next := 11 }
theorem toldCkR1 : (True) = vTold Tryd.prog SCkR1 (autoL Tryd.prog SCkR1 3000 [] 7 2) 20000 7 ACkR1 HCkR1 VCkR1 GCkR1 := by kernel_rfl
def CCkR2 (b : SumP) : SumP := recS (CCkR1 b) 7 ACkR1 HCkR1 VCkR1 GCkR1
def SCkR2 : SumP := CCkR2 S2
theorem SCkR2_ok {B : Nat} : SumPOk Tryd.prog B SCkR2 := recS_ok SCkR1_ok (WF.ofTold (Owe.of toldCkR1 (by repeat' (first | exact trivial | exact rfl | refine ⟨⟨0⟩, ?_⟩ | refine ⟨?_, ?_⟩ | intro _))) mixed SCkR1_ok)
end
end Go.Proofs.YtkcflepmingghaaDoor.CkptNil
