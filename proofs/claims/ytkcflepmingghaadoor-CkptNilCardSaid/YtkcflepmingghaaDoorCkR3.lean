/- A part of the proof that 'reevelaw07.CkptNil' returns true for every input: a closed run, call by call. No condition. -/
import Derived.Test.YtkcflepmingghaaDoorCkR2
import Derived.Test.YtkcflepmingghaaDoorAmJ
import Derived.KernelRfl
namespace Go.Proofs.YtkcflepmingghaaDoor.CkptNil
open Go.AM
noncomputable section
set_option maxHeartbeats 0
set_option maxRecDepth 1000000
def ACkR3 : List AV := [(.ptr 1 0), (.int .i64 3)]
def HCkR3 : Heap := { t := (.node (.node (.node (.node (.node (.node .nil none .nil) none .nil) none (.node .nil none .nil)) none (.node (.node (.node .nil none .nil) none .nil) none (.node .nil none .nil))) (some (.cells false 4 [(.slc 0 0 4 4 true), .nilSlc, (.bool false), (.int .i64 0)] (some 75))) (.node (.node (.node (.node .nil none .nil) none .nil) none (.node .nil none .nil)) none (.node (.node .nil none .nil) none (.node .nil none .nil)))) (some (.cells false 256 (rp 512 (.int .u8 0) ((.int .u8 1) :: (rp 7 (.int .u8 0) ((.int .u8 3) :: (.int .u8 0) :: (.int .u8 0) :: (.int .u8 0) :: (.int .u8 183) :: (.int .u8 63) :: (.int .u8 75) :: (.int .u8 54) :: (rp 239 (.int .u8 0) ((.int .u8 165) :: (.int .u8 97) :: (.int .u8 98) :: (.int .u8 99) :: (rp 253 (.int .u8 0) []))))))) (some 77))) (.node (.node (.node (.node (.node .nil none .nil) none .nil) none (.node .nil none .nil)) none (.node (.node (.node .nil none .nil) none .nil) none (.node .nil none .nil))) none (.node (.node (.node (.node .nil none .nil) none .nil) none (.node .nil none .nil)) none (.node (.node .nil none .nil) none (.node .nil none .nil))))), next := 37 }
def VCkR3 : AV := (.int .i64 0)
def GCkR3 : Heap := { t := (.node (.node (.node (.node (.node (.node .nil none .nil) none .nil) none (.node .nil none .nil)) none (.node (.node (.node .nil none .nil) none .nil) none (.node .nil none .nil))) (some (.cells false 4 [(.slc 0 0 4 4 true), .nilSlc, (.bool true), (.int .i64 3)] (some 75))) (.node (.node (.node (.node .nil none .nil) none .nil) none (.node .nil none .nil)) none (.node (.node .nil none .nil) none (.node .nil none .nil)))) (some (.cells false 256 (rp 512 (.int .u8 0) ((.int .u8 1) :: (rp 7 (.int .u8 0) ((.int .u8 3) :: (.int .u8 0) :: (.int .u8 0) :: (.int .u8 0) :: (.int .u8 183) :: (.int .u8 63) :: (.int .u8 75) :: (.int .u8 54) :: (rp 239 (.int .u8 0) ((.int .u8 165) :: (.int .u8 97) :: (.int .u8 98) :: (.int .u8 99) :: (rp 253 (.int .u8 0) []))))))) (some 77))) (.node (.node (.node (.node (.node .nil none .nil) none .nil) none (.node .nil none .nil)) none (.node (.node (.node .nil none .nil) none .nil) none (.node .nil none .nil))) none (.node (.node (.node (.node .nil none .nil) none .nil) none (.node .nil none .nil)) none (.node (.node .nil none .nil) none (.node .nil none .nil))))), next := 37 }
theorem toldCkR3 : (True) = vTold Tryd.prog SCkR3 (autoL Tryd.prog SCkR3 3000 [] 12 37) 20000 12 ACkR3 HCkR3 VCkR3 GCkR3 := by kernel_rfl
def CCkR4 (b : SumP) : SumP := recS (CCkR3 b) 12 ACkR3 HCkR3 VCkR3 GCkR3
def SCkR4 : SumP := CCkR4 S2
theorem SCkR4_ok {B : Nat} : SumPOk Tryd.prog B SCkR4 := recS_ok SCkR3_ok (WF.ofTold (Owe.of toldCkR3 (by repeat' (first | exact trivial | exact rfl | refine ⟨⟨0⟩, ?_⟩ | refine ⟨?_, ?_⟩ | intro _))) mixed SCkR3_ok)
end
end Go.Proofs.YtkcflepmingghaaDoor.CkptNil
