/- A part of the proof that 'reevelaw07.CkptNil' returns true for every input: a closed run, call by call. No condition. -/
import Derived.Test.YtkcflepmingghaaDoorCkR3
import Derived.Test.YtkcflepmingghaaDoorAmJ
import Derived.KernelRfl
namespace Go.Proofs.YtkcflepmingghaaDoor.CkptNil
open Go.AM
noncomputable section
set_option maxHeartbeats 0
set_option maxRecDepth 1000000
def ACkR4 : List AV := [(.ptr 1 0), (.int .i64 0), (.int .i64 4), (.int .u64 2), (.str (u8s [100, 101]))]
def HCkR4 : Heap := { t := (.node (.node (.node (.node (.node (.node .nil none .nil) none .nil) none (.node .nil none .nil)) none (.node (.node (.node .nil none .nil) none .nil) none (.node .nil none .nil))) (some (.cells false 4 [(.slc 0 0 4 4 true), .nilSlc, (.bool true), (.int .i64 3)] (some 75))) (.node (.node (.node (.node .nil none .nil) none .nil) none (.node .nil none .nil)) none (.node (.node .nil none .nil) none (.node .nil none .nil)))) (some (.cells false 256 (rp 512 (.int .u8 0) ((.int .u8 1) :: (rp 7 (.int .u8 0) ((.int .u8 3) :: (.int .u8 0) :: (.int .u8 0) :: (.int .u8 0) :: (.int .u8 183) :: (.int .u8 63) :: (.int .u8 75) :: (.int .u8 54) :: (rp 239 (.int .u8 0) ((.int .u8 165) :: (.int .u8 97) :: (.int .u8 98) :: (.int .u8 99) :: (rp 253 (.int .u8 0) []))))))) (some 77))) (.node (.node (.node (.node (.node .nil none .nil) none .nil) none (.node .nil none .nil)) none (.node (.node (.node .nil none .nil) none .nil) none (.node .nil none .nil))) none (.node (.node (.node (.node .nil none .nil) none .nil) none (.node .nil none .nil)) none (.node (.node .nil none .nil) none (.node .nil none .nil))))), next := 37 }
def VCkR4 : AV := (.int .i64 50)
def GCkR4 : Heap := { t := (.node (.node (.node (.node (.node (.node .nil none .nil) none (.node .nil none .nil)) none (.node (.node .nil none .nil) none (.node .nil (some (.cells false 257 ((.int .i64 1) :: (.int .u8 100) :: (.int .u8 101) :: (rp 254 (.int .u8 0) [])) (some 79))) .nil))) none (.node (.node (.node .nil none .nil) none (.node .nil none .nil)) none (.node (.node .nil none .nil) none .nil))) (some (.cells false 4 [(.slc 0 0 4 4 true), (.slc 55 0 1 1 false), (.bool true), (.int .i64 0)] (some 75))) (.node (.node (.node (.node .nil none .nil) none (.node .nil none .nil)) none (.node (.node .nil none .nil) none .nil)) none (.node (.node (.node .nil none .nil) none (.node .nil none .nil)) none (.node (.node .nil none .nil) none .nil)))) (some (.cells false 256 (rp 512 (.int .u8 0) ((.int .u8 1) :: (rp 7 (.int .u8 0) ((.int .u8 3) :: (.int .u8 0) :: (.int .u8 0) :: (.int .u8 0) :: (.int .u8 183) :: (.int .u8 63) :: (.int .u8 75) :: (.int .u8 54) :: (rp 239 (.int .u8 0) ((.int .u8 165) :: (.int .u8 97) :: (.int .u8 98) :: (.int .u8 99) :: (rp 253 (.int .u8 0) []))))))) (some 77))) (.node (.node (.node (.node (.node .nil none .nil) none (.node .nil none .nil)) none (.node (.node .nil none .nil) none .nil)) none (.node (.node (.node .nil none .nil) none (.node .nil none .nil)) none (.node (.node .nil none .nil) none .nil))) none (.node (.node (.node (.node .nil none .nil) none (.node .nil none .nil)) none (.node (.node .nil none .nil) none .nil)) none (.node (.node (.node .nil none .nil) none (.node .nil none .nil)) none (.node (.node .nil none .nil) none .nil))))), next := 56 }
theorem toldCkR4 : (True) = vTold Tryd.prog SCkR4 (autoL Tryd.prog SCkR4 3000 [] 8 37) 20000 8 ACkR4 HCkR4 VCkR4 GCkR4 := by kernel_rfl
def CCkR5 (b : SumP) : SumP := recS (CCkR4 b) 8 ACkR4 HCkR4 VCkR4 GCkR4
def SCkR5 : SumP := CCkR5 S2
theorem SCkR5_ok {B : Nat} : SumPOk Tryd.prog B SCkR5 := recS_ok SCkR4_ok (WF.ofTold (Owe.of toldCkR4 (by repeat' (first | exact trivial | exact rfl | refine ⟨⟨0⟩, ?_⟩ | refine ⟨?_, ?_⟩ | intro _))) mixed SCkR4_ok)
end
end Go.Proofs.YtkcflepmingghaaDoor.CkptNil
