/- A part of the proof that 'reevelaw28.ShardSilent' returns true for every input. No condition. -/
import Derived.Test.YtdohdhphpjhcjaaAmJ
import Derived.KernelRfl
import Derived.Test.YtdohdhphpjhcjaaShW
namespace Go.Proofs.Ytdohdhphpjhcjaa.Sh.Sw
open Go.AM
noncomputable section
/-- A region's operations, by its number. -/
def regGo (k : Nat) : Code → Option (List Oper)
  | .region j ops _ => bif Nat.beq j k then some ops.toList else none
  | .seq a b => (regGo k a).orElse fun _ => regGo k b
  | .cond _ a b => (regGo k a).orElse fun _ => regGo k b
  | .rangeFunc _ _ a b => (regGo k a).orElse fun _ => regGo k b
  | .block _ a => regGo k a
  | .loop a => regGo k a
  | .scope a => regGo k a
  | _ => none
def regOps (P : Program) (f : FuncId) (k : Nat) : List Oper := ((P.funcs[f]?.bind Func.body).bind (regGo k)).getD []
def LW : LTab := fun f k _ _ => match f, k with
  | 20, 4000003 => some ⟨One, fun _ => True, fun _ fr H => patchA [0] (fun n => [(2, .slc n 0 2 2 false)]) [] [.cells false 1 [.int .i64 0, .int .i64 1] none] fr H, fun _ => 0⟩
  | _, _ => none
def w0 : List Oper := regOps Try.prog 10 15
def w1 : List Oper := regOps Try.prog 10 16
def part0 : Prop := ∃ _s : One, True ∧
 Code.region (15 : Nat) w0.toArray false = Code.region (15 : Nat) w0.toArray false ∧
 Code.block (3 : Nat) (Code.region (16 : Nat) w1.toArray false) = Code.block (3 : Nat) (Code.region (16 : Nat) w1.toArray false) ∧
 Code.region (15 : Nat) w0.toArray false = Code.region (15 : Nat) w0.toArray false ∧
 Code.block (3 : Nat) (Code.region (16 : Nat) w1.toArray false) = Code.block (3 : Nat) (Code.region (16 : Nat) w1.toArray false)
def owed (u : Int) : Prop :=
  ((∃ _s : One, True ∧
 True) ∧
 ∃ _s : One, True ∧
 True) ∧
 ∀ (_s : One), True →
 ((∃ _s : One, True ∧
 True) ∧
 ∃ _s : One, True ∧
 True) ∧
 ∀ (_s : One), True →
 (part0 ∧
 part0) ∧
 ∀ (_s : One), True →
 true = true

theorem owed_eq (u : Int) : owed u = vTop Try.prog SP LW 20000 7 [] H0 (fun v _ => isB v true) := by kernel_rfl
end
end Go.Proofs.Ytdohdhphpjhcjaa.Sh.Sw
