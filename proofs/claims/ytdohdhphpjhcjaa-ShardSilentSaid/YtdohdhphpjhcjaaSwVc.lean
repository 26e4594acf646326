/- A part of the proof that 'reevelaw28.ShardSilent' returns true for every input. No condition. -/
import Derived.Test.YtdohdhphpjhcjaaAmJ
import Derived.KernelRfl
import Derived.Test.YtdohdhphpjhcjaaShW
namespace Go.Proofs.Ytdohdhphpjhcjaa.Sh.Sw
open Go.AM
noncomputable section
def LW : LTab := fun f k _ _ => match f, k with
  | 20, 4000003 => some ⟨One, fun _ => True, fun _ fr H => patchA [0] (fun n => [(2, .slc n 0 2 2 false)]) [] [.cells false 1 [.int .i64 0, .int .i64 1] none] fr H, fun _ => 0⟩
  | _, _ => none
def w0 : List Oper := [{ dst := some (13 : Nat), op := Op.alloc (30 : Nat), type := (0 : Nat), pos := "shard.go:131", after := #[], guard := none }, { dst := none, op := Op.store (30 : Nat) (Operand.tmp (13 : Nat)) (Operand.tmp (58 : Nat)), type := (0 : Nat), pos := "shard.go:131", after := #[{ on := (0 : Nat), ground := Ground.data }, { on := (0 : Nat), ground := Ground.phase }], guard := none }]
def w1 : List Oper := [{ dst := some (59 : Nat), op := Op.load (23 : Nat) (Operand.tmp (12 : Nat)), type := (23 : Nat), pos := "shard.go:132", after := #[], guard := none }, { dst := some (60 : Nat), op := Op.load (30 : Nat) (Operand.tmp (13 : Nat)), type := (30 : Nat), pos := "shard.go:132", after := #[], guard := none }, { dst := some (61 : Nat), op := Op.buildSlice (23 : Nat) (1 : Nat) #[((0 : Nat), Operand.tmp (60 : Nat))], type := (23 : Nat), pos := "shard.go:132", after := #[{ on := (1 : Nat), ground := Ground.data }], guard := none }, { dst := some (62 : Nat), op := Op.call { callee := Callee.builtin Builtin.append, args := #[Operand.tmp (59 : Nat), Operand.tmp (61 : Nat)], argTypes := #[(23 : Nat), (23 : Nat)] }, type := (23 : Nat), pos := "shard.go:132", after := #[{ on := (0 : Nat), ground := Ground.data }, { on := (2 : Nat), ground := Ground.data }], guard := none }, { dst := none, op := Op.store (23 : Nat) (Operand.tmp (12 : Nat)) (Operand.tmp (62 : Nat)), type := (0 : Nat), pos := "shard.go:132", after := #[{ on := (3 : Nat), ground := Ground.data }, { on := (3 : Nat), ground := Ground.chain }, { on := (0 : Nat), ground := Ground.phase }, { on := (1 : Nat), ground := Ground.phase }, { on := (2 : Nat), ground := Ground.phase }, { on := (3 : Nat), ground := Ground.phase }], guard := none }]
def part0 : Prop := ∃ _s : One, True ∧
 Code.region (15 : Nat) w0.toArray false = Code.region (15 : Nat) w0.toArray false ∧
 Code.block (3 : Nat) (Code.region (16 : Nat) w1.toArray false) = Code.block (3 : Nat) (Code.region (16 : Nat) w1.toArray false) ∧
 Code.region (15 : Nat) w0.toArray false = Code.region (15 : Nat) w0.toArray false ∧
 Code.block (3 : Nat) (Code.region (16 : Nat) w1.toArray false) = Code.block (3 : Nat) (Code.region (16 : Nat) w1.toArray false)
def owed (u : Int) : Prop :=
  ((∃ _s : One, True ∧
 True) ∧
 ∃ _s : One, True ∧
 True) ∧
 ∀ (_s : One), True →
 ((∃ _s : One, True ∧
 True) ∧
 ∃ _s : One, True ∧
 True) ∧
 ∀ (_s : One), True →
 (part0 ∧
 part0) ∧
 ∀ (_s : One), True →
 true = true

theorem owed_eq (u : Int) : owed u = vTop Try.prog SP LW 20000 7 [] H0 (fun v _ => isB v true) := by kernel_rfl
end
end Go.Proofs.Ytdohdhphpjhcjaa.Sh.Sw
