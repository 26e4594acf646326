/- A part of the proof that 'reevelaw06.WalNil' returns true for every input: a closed run, call by call. No condition. -/
import Derived.Test.YtpbmnmnaidkpkaaWnR0
import Derived.Test.YtpbmnmnaidkpkaaAmJ
import Derived.KernelRfl
namespace Go.Proofs.Ytpbmnmnaidkpkaa.WalNil
open Go.AM
noncomputable section
set_option maxHeartbeats 0
set_option maxRecDepth 1000000
def AWnR1 : List AV := [(.ptr 1 0), (.int .i64 0), (.int .i64 4)]
def HWnR1 : Heap := { t := (.node (.node .nil (some (.cells false 4 [(.slc 0 0 4 4 true), .nilSlc, (.bool false), (.int .i64 0)] (some 78))) .nil) (some (.cells false 256 (rp 1024 (.int .u8 0) []) (some 80))) .nil), next := 2 }
def VWnR1 : AV := (.int .i64 0)
def GWnR1 : Heap := { t := (.node (.node (.node (.node (.node .nil none .nil) none .nil) none (.node .nil none .nil)) (some (.cells false 4 [(.slc 0 0 4 4 true), .nilSlc, (.bool false), (.int .i64 0)] (some 78))) (.node (.node (.node .nil none .nil) none .nil) none (.node .nil none .nil))) (some (.cells false 256 (rp 1024 (.int .u8 0) []) (some 80))) (.node (.node (.node (.node .nil none .nil) none .nil) none (.node .nil none .nil)) none (.node (.node .nil none .nil) none (.node .nil none .nil)))), next := 18 }
theorem toldWnR1 : (True) = vTold Try.prog SWnR1 (autoL Try.prog SWnR1 3000 [] 11 2) 20000 11 AWnR1 HWnR1 VWnR1 GWnR1 := by kernel_rfl
def CWnR2 (b : SumP) : SumP := recS (CWnR1 b) 11 AWnR1 HWnR1 VWnR1 GWnR1
def SWnR2 : SumP := CWnR2 S2
theorem SWnR2_ok {B : Nat} : SumPOk Try.prog B SWnR2 := recS_ok SWnR1_ok (WF.ofTold (Owe.of toldWnR1 (by repeat' (first | exact trivial | exact rfl | refine ⟨⟨0⟩, ?_⟩ | refine ⟨?_, ?_⟩ | intro _))) mixed SWnR1_ok)
end
end Go.Proofs.Ytpbmnmnaidkpkaa.WalNil
