/- A part of the proof that 'reevelaw07.CkptNil' returns true for every input: a closed run, call by call. No condition. -/
import Derived.Test.YtkcflepmingghaaDoorCkR1
import Derived.Test.YtkcflepmingghaaDoorAmJ
import Derived.KernelRfl
namespace Go.Proofs.YtkcflepmingghaaDoor.CkptNil
open Go.AM
noncomputable section
set_option maxHeartbeats 0
set_option maxRecDepth 1000000
def ACkR2 : List AV := [(.ptr 1 0), (.int .i64 0), (.int .i64 4), (.int .u64 1), (.str (u8s [97, 98, 99]))]
def HCkR2 : Heap := { t := (.node (.node (.node (.node .nil none .nil) none .nil) (some (.cells false 4 [(.slc 0 0 4 4 true), .nilSlc, (.bool false), (.int .i64 0)] (some 75))) (.node (.node .nil none .nil) none .nil)) (some (.cells false 256 (rp 1024 (.int .u8 0) []) (some 77))) (.node (.node (.node .nil none .nil) none .nil) none (.node (.node .nil none .nil) none .nil))), next := 11 }
def VCkR2 : AV := (.int .i64 0)
def GCkR2 : Heap := { t := (.node (.node (.node (.node (.node (.node .nil none .nil) none .nil) none (.node .nil none .nil)) none (.node (.node (.node .nil none .nil) none .nil) none (.node .nil none .nil))) (some (.cells false 4 [(.slc 0 0 4 4 true), .nilSlc, (.bool false), (.int .i64 0)] (some 75))) (.node (.node (.node (.node .nil none .nil) none .nil) none (.node .nil none .nil)) none (.node (.node .nil none .nil) none (.node .nil none .nil)))) (some (.cells false 256 (rp 512 (.int .u8 0) ((.int .u8 1) :: (rp 7 (.int .u8 0) ((.int .u8 3) :: (.int .u8 0) :: (.int .u8 0) :: (.int .u8 0) :: (.int .u8 183) :: (.int .u8 63) :: (.int .u8 75) :: (.int .u8 54) :: (rp 239 (.int .u8 0) ((.int .u8 165) :: (.int .u8 97) :: (.int .u8 98) :: (.int .u8 99) :: (rp 253 (.int .u8 0) []))))))) (some 77))) (.node (.node (.node (.node (.node .nil none .nil) none .nil) none (.node .nil none .nil)) none (.node (.node (.node .nil none .nil) none .nil) none (.node .nil none .nil))) none (.node (.node (.node (.node .nil none .nil) none .nil) none (.node .nil none .nil)) none (.node (.node .nil none .nil) none (.node .nil none .nil))))), next := 37 }
theorem toldCkR2 : (True) = vTold Tryd.prog SCkR2 (autoL Tryd.prog SCkR2 3000 [] 8 11) 20000 8 ACkR2 HCkR2 VCkR2 GCkR2 := by kernel_rfl
def CCkR3 (b : SumP) : SumP := recS (CCkR2 b) 8 ACkR2 HCkR2 VCkR2 GCkR2
def SCkR3 : SumP := CCkR3 S2
theorem SCkR3_ok {B : Nat} : SumPOk Tryd.prog B SCkR3 := recS_ok SCkR2_ok (WF.ofTold (Owe.of toldCkR2 (by repeat' (first | exact trivial | exact rfl | refine ⟨⟨0⟩, ?_⟩ | refine ⟨?_, ?_⟩ | intro _))) mixed SCkR2_ok)
end
end Go.Proofs.YtkcflepmingghaaDoor.CkptNil
