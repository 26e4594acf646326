/- A part of the proof that 'reevelaw06.WalNil' returns true for every input: a closed run, call by call. No condition. -/
import Derived.Test.YtpbmnmnaidkpkaaWnTab
import Derived.Test.YtpbmnmnaidkpkaaAmJ
import Derived.KernelRfl
namespace Go.Proofs.Ytpbmnmnaidkpkaa.WalNil
open Go.AM
noncomputable section
set_option maxHeartbeats 0
set_option maxRecDepth 1000000
def AWnR0 : List AV := [(.int .i64 4)]
def HWnR0 : Heap := { t := .nil, next := 0 }
def VWnR0 : AV := (.tup [(.ptr 1 0), (.int .i64 0)])
def GWnR0 : Heap := { t := (.node (.node .nil (some (.cells false 4 [(.slc 0 0 4 4 true), .nilSlc, (.bool false), (.int .i64 0)] (some 78))) .nil) (some (.cells false 256 (rp 1024 (.int .u8 0) []) (some 80))) .nil), next := 2 }
theorem toldWnR0 : (True) = vTold Try.prog S2 (autoL Try.prog S2 3000 [] 12 0) 20000 12 AWnR0 HWnR0 VWnR0 GWnR0 := by kernel_rfl
def CWnR1 (b : SumP) : SumP := recS b 12 AWnR0 HWnR0 VWnR0 GWnR0
def SWnR1 : SumP := CWnR1 S2
theorem SWnR1_ok {B : Nat} : SumPOk Try.prog B SWnR1 := recS_ok S2_ok (WF.ofTold (Owe.of toldWnR0 (by repeat' (first | exact trivial | exact rfl | refine ⟨⟨0⟩, ?_⟩ | refine ⟨?_, ?_⟩ | intro _))) mixed S2_ok)
end
end Go.Proofs.Ytpbmnmnaidkpkaa.WalNil
