/- A part of the proof that 'reevelaw22.StateNone' returns true for every input. No condition. -/
import Derived.Test.YtknaacdeinnpjaaGreatZnA12
import Derived.KernelRfl
namespace Go.Proofs.YtknaacdeinnpjaaGreat.StateNone
open Go.AM
noncomputable section
theorem works_ok {B : Nat} {H : Heap} : WF Tryz.prog B 5 [] H (fun v H' => v = .bool true ∧ H' = H) :=
  WF.reval (WF.pureB (b := true) ZnAW rfl) fun v H' ρ x hv hr => ⟨.bool true, ⟨rfl, hv.2⟩, by rw [hv.1] at hr; simp only [Rel] at hr ⊢; exact hr⟩
def S3 : SumP := fun f args _ => match f, args with
  | 5, [] => some (.val (.bool true))
  | _, _ => none
theorem sum_ok {B : Nat} : SumPOk Tryz.prog B S3 := by
  intro f args H s h
  unfold S3 at h
  split at h
  · cases h; exact works_ok
  · cases h
def noL : LTab := fun _ _ _ _ => none
def owed (x3 x9 x10 x16 x19 x20 x25 x27 : List UInt8) : Prop := (decide ((1024 : Int) < IntKind.i64.wrap (IntKind.i64.wrap (IntKind.i64.wrap (IntKind.i64.wrap (IntKind.i64.wrap (IntKind.i64.wrap (IntKind.i64.wrap ((↑x3.length : Int) + (↑x9.length : Int)) + (↑x10.length : Int)) + (↑x16.length : Int)) + (↑x19.length : Int)) + (↑x20.length : Int)) + (↑x25.length : Int)) + (↑x27.length : Int))) = true → true = true) ∧ ((!decide ((1024 : Int) < IntKind.i64.wrap (IntKind.i64.wrap (IntKind.i64.wrap (IntKind.i64.wrap (IntKind.i64.wrap (IntKind.i64.wrap (IntKind.i64.wrap ((↑x3.length : Int) + (↑x9.length : Int)) + (↑x10.length : Int)) + (↑x16.length : Int)) + (↑x19.length : Int)) + (↑x20.length : Int)) + (↑x25.length : Int)) + (↑x27.length : Int)))) = true → true = true)
theorem owed_eq (x0 : Int) (x1 : Int) (x2 : Int) (x3 : List UInt8) (x4 : Int) (x5 : Int) (x6 : Int) (x7 : Int) (x8 : Int) (x9 : List UInt8) (x10 : List UInt8) (x11 : Int) (x12 : Int) (x13 : Int) (x14 : Int) (x15 : Int) (x16 : List UInt8) (x17 : Int) (x18 : Int) (x19 : List UInt8) (x20 : List UInt8) (x21 : Int) (x22 : Int) (x23 : Int) (x24 : Int) (x25 : List UInt8) (x26 : Int) (x27 : List UInt8) (x28 : Int) (x29 : Int) (x30 : Int) (x31 : Int) (x32 : Int) : owed x3 x9 x10 x16 x19 x20 x25 x27 = vTop Tryz.prog S3 noL 20000 3 [.agg [.sI .u8 x0, .sI .u64 x1, .sI .u64 x2, .sS x3, .sI .u8 x4, .sI .i64 x5, .sI .i64 x6, .sI .i64 x7, .sI .i64 x8, .sS x9, .sS x10, .sI .u8 x11, .sI .i64 x12, .sI .i64 x13, .sI .i64 x14, .sI .i64 x15, .sS x16, .sI .i64 x17, .sI .i64 x18, .sS x19, .sS x20, .sI .i64 x21, .sI .i64 x22, .sI .i64 x23, .sI .i64 x24, .sS x25, .sI .i64 x26, .sS x27, .sI .i64 x28, .sI .i64 x29, .sI .i64 x30, .sI .u8 x31, .sI .i64 x32]] H0 (fun v _ => isB v true) := by kernel_rfl
theorem ran {B : Nat} (x0 : Int) (x1 : Int) (x2 : Int) (x3 : List UInt8) (x4 : Int) (x5 : Int) (x6 : Int) (x7 : Int) (x8 : Int) (x9 : List UInt8) (x10 : List UInt8) (x11 : Int) (x12 : Int) (x13 : Int) (x14 : Int) (x15 : Int) (x16 : List UInt8) (x17 : Int) (x18 : Int) (x19 : List UInt8) (x20 : List UInt8) (x21 : Int) (x22 : Int) (x23 : Int) (x24 : Int) (x25 : List UInt8) (x26 : Int) (x27 : List UInt8) (x28 : Int) (x29 : Int) (x30 : Int) (x31 : Int) (x32 : Int) : WF Tryz.prog B 3 [.agg [.sI .u8 x0, .sI .u64 x1, .sI .u64 x2, .sS x3, .sI .u8 x4, .sI .i64 x5, .sI .i64 x6, .sI .i64 x7, .sI .i64 x8, .sS x9, .sS x10, .sI .u8 x11, .sI .i64 x12, .sI .i64 x13, .sI .i64 x14, .sI .i64 x15, .sS x16, .sI .i64 x17, .sI .i64 x18, .sS x19, .sS x20, .sI .i64 x21, .sI .i64 x22, .sI .i64 x23, .sI .i64 x24, .sS x25, .sI .i64 x26, .sS x27, .sI .i64 x28, .sI .i64 x29, .sI .i64 x30, .sI .u8 x31, .sI .i64 x32]] H0 (fun v _ => isB v true) :=
  WF.owe (Owe.of (owed_eq x0 x1 x2 x3 x4 x5 x6 x7 x8 x9 x10 x11 x12 x13 x14 x15 x16 x17 x18 x19 x20 x21 x22 x23 x24 x25 x26 x27 x28 x29 x30 x31 x32) ⟨fun _ => rfl, fun _ => rfl⟩) mixed sum_ok
end
end Go.Proofs.YtknaacdeinnpjaaGreat.StateNone
