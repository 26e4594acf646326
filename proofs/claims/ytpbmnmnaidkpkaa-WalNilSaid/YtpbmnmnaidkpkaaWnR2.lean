/- A part of the proof that 'reevelaw06.WalNil' returns true for every input: a closed run, call by call. No condition. -/
import Derived.Test.YtpbmnmnaidkpkaaWnR1
import Derived.Test.YtpbmnmnaidkpkaaAmJ
import Derived.KernelRfl
namespace Go.Proofs.Ytpbmnmnaidkpkaa.WalNil
open Go.AM
noncomputable section
set_option maxHeartbeats 0
set_option maxRecDepth 1000000
def AWnR2 : List AV := [(.ptr 1 0), (.int .i64 0), (.int .i64 4)]
def HWnR2 : Heap := { t := (.node (.node (.node (.node (.node .nil none .nil) none .nil) none (.node .nil none .nil)) (some (.cells false 4 [(.slc 0 0 4 4 true), .nilSlc, (.bool false), (.int .i64 0)] (some 78))) (.node (.node (.node .nil none .nil) none .nil) none (.node .nil none .nil))) (some (.cells false 256 (rp 1024 (.int .u8 0) []) (some 80))) (.node (.node (.node (.node .nil none .nil) none .nil) none (.node .nil none .nil)) none (.node (.node .nil none .nil) none (.node .nil none .nil)))), next := 18 }
def VWnR2 : AV := (.tup [(.ptr 66 0), .nilSlc, (.int .i64 0)])
def GWnR2 : Heap := { t := (.node (.node (.node (.node (.node (.node (.node .nil none .nil) none .nil) none (.node .nil none .nil)) none (.node (.node .nil none .nil) none (.node .nil none .nil))) none (.node (.node (.node .nil none .nil) none (.node .nil none .nil)) none (.node (.node .nil none .nil) none (.node .nil none .nil)))) (some (.cells false 4 [(.slc 0 0 4 4 true), .nilSlc, (.bool false), (.int .i64 0)] (some 78))) (.node (.node (.node (.node (.node .nil none .nil) none .nil) none (.node .nil none .nil)) none (.node (.node .nil none .nil) none (.node .nil none .nil))) none (.node (.node (.node .nil none .nil) none (.node .nil none .nil)) none (.node (.node .nil none .nil) none (.node .nil none .nil))))) (some (.cells false 256 (rp 1024 (.int .u8 0) []) (some 80))) (.node (.node (.node (.node (.node (.node .nil none .nil) none .nil) none (.node .nil none .nil)) none (.node (.node .nil none .nil) none (.node .nil none .nil))) none (.node (.node (.node .nil none .nil) none (.node .nil none .nil)) none (.node (.node .nil none .nil) none (.node .nil none .nil)))) none (.node (.node (.node (.node (.node .nil (some (.cells false 5 [(.ptr 1 0), (.int .i64 0), (.int .i64 4), (.str []), (.bool false)] (some 68))) .nil) none .nil) none (.node .nil none .nil)) none (.node (.node .nil none .nil) none (.node .nil none .nil))) none (.node (.node (.node .nil none .nil) none (.node .nil none .nil)) none (.node (.node .nil none .nil) none (.node .nil none .nil)))))), next := 67 }
theorem toldWnR2 : (True) = vTold Try.prog SWnR2 (autoL Try.prog SWnR2 3000 [] 7 18) 20000 7 AWnR2 HWnR2 VWnR2 GWnR2 := by kernel_rfl
def CWnR3 (b : SumP) : SumP := recS (CWnR2 b) 7 AWnR2 HWnR2 VWnR2 GWnR2
def SWnR3 : SumP := CWnR3 S2
theorem SWnR3_ok {B : Nat} : SumPOk Try.prog B SWnR3 := recS_ok SWnR2_ok (WF.ofTold (Owe.of toldWnR2 (by repeat' (first | exact trivial | exact rfl | refine ⟨⟨0⟩, ?_⟩ | refine ⟨?_, ?_⟩ | intro _))) mixed SWnR2_ok)
end
end Go.Proofs.Ytpbmnmnaidkpkaa.WalNil
