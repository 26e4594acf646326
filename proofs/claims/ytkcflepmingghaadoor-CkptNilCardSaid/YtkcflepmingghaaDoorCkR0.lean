/- A part of the proof that 'reevelaw07.CkptNil' returns true for every input: a closed run, call by call. No condition. -/
import Derived.Test.YtkcflepmingghaaDoorCkTab
import Derived.Test.YtkcflepmingghaaDoorAmJ
import Derived.KernelRfl
namespace Go.Proofs.YtkcflepmingghaaDoor.CkptNil
open Go.AM
noncomputable section
set_option maxHeartbeats 0
set_option maxRecDepth 1000000
def ACkR0 : List AV := [(.int .i64 4)]
def HCkR0 : Heap := { t := .nil, next := 0 }
def VCkR0 : AV := (.tup [(.ptr 1 0), (.int .i64 0)])
def GCkR0 : Heap := { t := (.node (.node .nil (some (.cells false 4 [(.slc 0 0 4 4 true), .nilSlc, (.bool false), (.int .i64 0)] (some 75))) .nil) (some (.cells false 256 (rp 1024 (.int .u8 0) []) (some 77))) .nil), next := 2 }
theorem toldCkR0 : (True) = vTold Tryd.prog S2 (autoL Tryd.prog S2 3000 [] 10 0) 20000 10 ACkR0 HCkR0 VCkR0 GCkR0 := by kernel_rfl
def CCkR1 (b : SumP) : SumP := recS b 10 ACkR0 HCkR0 VCkR0 GCkR0
def SCkR1 : SumP := CCkR1 S2
theorem SCkR1_ok {B : Nat} : SumPOk Tryd.prog B SCkR1 := recS_ok S2_ok (WF.ofTold (Owe.of toldCkR0 (by repeat' (first | exact trivial | exact rfl | refine ⟨⟨0⟩, ?_⟩ | refine ⟨?_, ?_⟩ | intro _))) mixed S2_ok)
end
end Go.Proofs.YtkcflepmingghaaDoor.CkptNil
