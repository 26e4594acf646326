/- A part of the proof that 'reevelaw10.NetFull' returns true for every input. No condition. -/
import Derived.Test.YtdeoahhofhmgfaaAmPure
import Derived.KernelRfl
import Derived.Test.YtdeoahhofhmgfaaProg
namespace Go.Proofs.Ytdeoahhofhmgfaa.NetFull
open Go.AM
noncomputable section
def adr (a : Int) : Bool := decide (0 ≤ a) && decide (a < 256)
def S1 : SumP := fun f args H => match f, args with
  | 15, [] => some fun Q => Q (.bool true) H
  | 73, [.sI .i64 a] => some fun Q => Q (.sB (adr a)) H
  | _, _ => none
def keyR : RTy := .one (.int .u64)
def letR : RTy := .cons (.int .u64) (.cons (.int .i64) (.cons (.int .i64) (.cons .txt (.one (.int .i64)))))
structure NS where
  i : Int
  last : Int
  m : List (Int × Int × Int × Int × List UInt8 × Int)
def heapOf (l : List AObj) : Heap := l.foldl Heap.alloc ⟨.nil, 0⟩
def LA (src dst more : Int) (s : List UInt8) (inv : NS → Prop) : LInv := ⟨NS, inv,
  fun t _ _ => ([(0, .sI .u8 src), (1, .sI .u8 dst), (2, .sS s), (3, .sI .u8 more), (9, .ptr 0 0), (10, .sI .i64 t.i)],
    heapOf [.cells false 3 [.map 1, .sI .u64 t.last, .map 2] none, .smap false true keyR letR t.m, .map [] 0]), fun t => 4096 - t.i.toNat⟩
def LB (src dst more : Int) (s : List UInt8) (inv : NS → Prop) : LInv := ⟨NS, inv,
  fun t _ _ => ([(0, .sI .u8 src), (1, .sI .u8 dst), (2, .sS s), (3, .sI .u8 more), (9, .ptr 0 0), (13, .sI .i64 t.i)],
    heapOf [.cells false 3 [.map 1, .sI .u64 t.last, .map 2] none, .smap false true keyR letR t.m, .map [] 0]), fun t => 256 - t.i.toNat⟩
def L1 (src dst more : Int) (s : List UInt8) (invA invB : NS → Prop) : LTab := fun f k => match f, k with
  | 3, 7 => some (LA src dst more s invA)
  | 3, 13 => some (LB src dst more s invB)
  | _, _ => none
def owed (src dst more : Int) (s : List UInt8) (invA invB : NS → Prop) : Prop :=
  (decide ((10 : Int) < (↑s.length : Int)) = true →
 true = true) ∧
 (decide ((10 : Int) < (↑s.length : Int)) = false →
 ∃ s0, invA s0 ∧
 (src = src ∧
 dst = dst ∧
 s = s ∧
 more = more ∧
 (0 : Int) = s0.i ∧
 (0 : Int) = s0.last ∧
 [] = s0.m ∧
 (List.map (fun x => x.fst) s0.m).Nodup) ∧
 ∀ (s_1 : (LA src dst more s invA).σ), invA s_1 →
 IntKind.u8.has src →
 IntKind.u8.has dst →
 IntKind.u8.has more →
 s.length ≤ (9223372036854775807 : Nat) →
 IntKind.i64.has s_1.i →
 IntKind.u64.has s_1.last →
 (List.map (fun x => x.fst) s_1.m).Nodup →
 (∀ (p : Int × Int × Int × Int × List UInt8 × Int), p ∈ s_1.m →
 (RTy.one (CTy.int IntKind.u64)).Has p.fst ∧
 (RTy.cons (CTy.int IntKind.u64) (RTy.cons (CTy.int IntKind.i64) (RTy.cons (CTy.int IntKind.i64) (RTy.cons CTy.txt (RTy.one (CTy.int IntKind.i64)))))).Has p.snd) →
 (decide (s_1.i < (4096 : Int)) = true →
 ((!adr (IntKind.i64.wrap src)) = true →
 ((!adr (IntKind.i64.wrap src)) = true →
 false = true) ∧
 ((!adr (IntKind.i64.wrap src)) = false →
 (decide ((131072 : Int) < (↑s.length : Int)) = true →
 false = true) ∧
 (decide ((131072 : Int) < (↑s.length : Int)) = false →
 s_1.m.length ≤ (9223372036854775807 : Nat) ∧
 (decide ((4096 : Int) ≤ (↑s_1.m.length : Int)) = true →
 false = true) ∧
 (decide ((4096 : Int) ≤ (↑s_1.m.length : Int)) = false →
 ∃ s', invA s' ∧
 (4096 : Nat) - s'.i.toNat < (4096 : Nat) - s_1.i.toNat ∧
 src = src ∧
 dst = dst ∧
 s = s ∧
 more = more ∧
 IntKind.i64.wrap (s_1.i + (1 : Int)) = s'.i ∧
 IntKind.u64.wrap (s_1.last + (1 : Int)) = s'.last ∧
 (mput s_1.m (IntKind.u64.wrap (s_1.last + (1 : Int))) (IntKind.u64.wrap (s_1.last + (1 : Int)), IntKind.i64.wrap src, IntKind.i64.wrap dst, s, (0 : Int))) = s'.m)))) ∧
 ((!adr (IntKind.i64.wrap src)) = false →
 ((!adr (IntKind.i64.wrap dst)) = true →
 false = true) ∧
 ((!adr (IntKind.i64.wrap dst)) = false →
 (decide ((131072 : Int) < (↑s.length : Int)) = true →
 false = true) ∧
 (decide ((131072 : Int) < (↑s.length : Int)) = false →
 s_1.m.length ≤ (9223372036854775807 : Nat) ∧
 (decide ((4096 : Int) ≤ (↑s_1.m.length : Int)) = true →
 false = true) ∧
 (decide ((4096 : Int) ≤ (↑s_1.m.length : Int)) = false →
 ∃ s', invA s' ∧
 (4096 : Nat) - s'.i.toNat < (4096 : Nat) - s_1.i.toNat ∧
 src = src ∧
 dst = dst ∧
 s = s ∧
 more = more ∧
 IntKind.i64.wrap (s_1.i + (1 : Int)) = s'.i ∧
 IntKind.u64.wrap (s_1.last + (1 : Int)) = s'.last ∧
 (mput s_1.m (IntKind.u64.wrap (s_1.last + (1 : Int))) (IntKind.u64.wrap (s_1.last + (1 : Int)), IntKind.i64.wrap src, IntKind.i64.wrap dst, s, (0 : Int))) = s'.m))))) ∧
 (decide (s_1.i < (4096 : Int)) = false →
 ∃ s0, invB s0 ∧
 (src = src ∧
 dst = dst ∧
 s = s ∧
 more = more ∧
 (0 : Int) = s0.i ∧
 s_1.last = s0.last ∧
 s_1.m = s0.m) ∧
 ∀ (s_2 : (LB src dst more s invB).σ), invB s_2 →
 IntKind.u8.has src →
 IntKind.u8.has dst →
 IntKind.u8.has more →
 IntKind.i64.has s_2.i →
 s.length ≤ (9223372036854775807 : Nat) →
 IntKind.u64.has s_2.last →
 (List.map (fun x => x.fst) s_2.m).Nodup →
 (∀ (p : Int × Int × Int × Int × List UInt8 × Int), p ∈ s_2.m →
 (RTy.one (CTy.int IntKind.u64)).Has p.fst ∧
 (RTy.cons (CTy.int IntKind.u64) (RTy.cons (CTy.int IntKind.i64) (RTy.cons (CTy.int IntKind.i64) (RTy.cons CTy.txt (RTy.one (CTy.int IntKind.i64)))))).Has p.snd) →
 (decide (s_2.i < IntKind.i64.wrap more) = true →
 ((!adr (IntKind.i64.wrap src)) = true →
 ((!adr (IntKind.i64.wrap src)) = true →
 ((!(mget s_2.m (IntKind.u64.wrap (IntKind.u64.wrap s_2.i + (1 : Int)))).isSome) = true →
 false = true) ∧
 ((!(mget s_2.m (IntKind.u64.wrap (IntKind.u64.wrap s_2.i + (1 : Int)))).isSome) = false →
 s_2.m.length ≤ (9223372036854775807 : Nat) ∧
 (decide ((4096 : Int) ≤ (↑s_2.m.length : Int)) = true →
 false = true) ∧
 (decide ((4096 : Int) ≤ (↑s_2.m.length : Int)) = false →
 false = true))) ∧
 ((!adr (IntKind.i64.wrap src)) = false →
 (decide ((131072 : Int) < (↑s.length : Int)) = true →
 ((!(mget s_2.m (IntKind.u64.wrap (IntKind.u64.wrap s_2.i + (1 : Int)))).isSome) = true →
 false = true) ∧
 ((!(mget s_2.m (IntKind.u64.wrap (IntKind.u64.wrap s_2.i + (1 : Int)))).isSome) = false →
 s_2.m.length ≤ (9223372036854775807 : Nat) ∧
 (decide ((4096 : Int) ≤ (↑s_2.m.length : Int)) = true →
 false = true) ∧
 (decide ((4096 : Int) ≤ (↑s_2.m.length : Int)) = false →
 false = true))) ∧
 (decide ((131072 : Int) < (↑s.length : Int)) = false →
 s_2.m.length ≤ (9223372036854775807 : Nat) ∧
 (decide ((4096 : Int) ≤ (↑s_2.m.length : Int)) = true →
 ((!(mget s_2.m (IntKind.u64.wrap (IntKind.u64.wrap s_2.i + (1 : Int)))).isSome) = true →
 false = true) ∧
 ((!(mget s_2.m (IntKind.u64.wrap (IntKind.u64.wrap s_2.i + (1 : Int)))).isSome) = false →
 s_2.m.length ≤ (9223372036854775807 : Nat) ∧
 (decide ((4096 : Int) ≤ (↑s_2.m.length : Int)) = true →
 ∃ s', invB s' ∧
 (256 : Nat) - s'.i.toNat < (256 : Nat) - s_2.i.toNat ∧
 src = src ∧
 dst = dst ∧
 s = s ∧
 more = more ∧
 IntKind.i64.wrap (s_2.i + (1 : Int)) = s'.i ∧
 s_2.last = s'.last ∧
 s_2.m = s'.m) ∧
 (decide ((4096 : Int) ≤ (↑s_2.m.length : Int)) = false →
 false = true))) ∧
 (decide ((4096 : Int) ≤ (↑s_2.m.length : Int)) = false →
 ((!(mget (mput s_2.m (IntKind.u64.wrap (s_2.last + (1 : Int))) (IntKind.u64.wrap (s_2.last + (1 : Int)), IntKind.i64.wrap src, IntKind.i64.wrap dst, s, (0 : Int))) (IntKind.u64.wrap (IntKind.u64.wrap s_2.i + (1 : Int)))).isSome) = true →
 false = true) ∧
 ((!(mget (mput s_2.m (IntKind.u64.wrap (s_2.last + (1 : Int))) (IntKind.u64.wrap (s_2.last + (1 : Int)), IntKind.i64.wrap src, IntKind.i64.wrap dst, s, (0 : Int))) (IntKind.u64.wrap (IntKind.u64.wrap s_2.i + (1 : Int)))).isSome) = false →
 (mput s_2.m (IntKind.u64.wrap (s_2.last + (1 : Int))) (IntKind.u64.wrap (s_2.last + (1 : Int)), IntKind.i64.wrap src, IntKind.i64.wrap dst, s, (0 : Int))).length ≤ (9223372036854775807 : Nat) ∧
 (decide ((4096 : Int) ≤ (↑(mput s_2.m (IntKind.u64.wrap (s_2.last + (1 : Int))) (IntKind.u64.wrap (s_2.last + (1 : Int)), IntKind.i64.wrap src, IntKind.i64.wrap dst, s, (0 : Int))).length : Int)) = true →
 false = true) ∧
 (decide ((4096 : Int) ≤ (↑(mput s_2.m (IntKind.u64.wrap (s_2.last + (1 : Int))) (IntKind.u64.wrap (s_2.last + (1 : Int)), IntKind.i64.wrap src, IntKind.i64.wrap dst, s, (0 : Int))).length : Int)) = false →
 false = true)))))) ∧
 ((!adr (IntKind.i64.wrap src)) = false →
 ((!adr (IntKind.i64.wrap dst)) = true →
 ((!(mget s_2.m (IntKind.u64.wrap (IntKind.u64.wrap s_2.i + (1 : Int)))).isSome) = true →
 false = true) ∧
 ((!(mget s_2.m (IntKind.u64.wrap (IntKind.u64.wrap s_2.i + (1 : Int)))).isSome) = false →
 s_2.m.length ≤ (9223372036854775807 : Nat) ∧
 (decide ((4096 : Int) ≤ (↑s_2.m.length : Int)) = true →
 false = true) ∧
 (decide ((4096 : Int) ≤ (↑s_2.m.length : Int)) = false →
 false = true))) ∧
 ((!adr (IntKind.i64.wrap dst)) = false →
 (decide ((131072 : Int) < (↑s.length : Int)) = true →
 ((!(mget s_2.m (IntKind.u64.wrap (IntKind.u64.wrap s_2.i + (1 : Int)))).isSome) = true →
 false = true) ∧
 ((!(mget s_2.m (IntKind.u64.wrap (IntKind.u64.wrap s_2.i + (1 : Int)))).isSome) = false →
 s_2.m.length ≤ (9223372036854775807 : Nat) ∧
 (decide ((4096 : Int) ≤ (↑s_2.m.length : Int)) = true →
 false = true) ∧
 (decide ((4096 : Int) ≤ (↑s_2.m.length : Int)) = false →
 false = true))) ∧
 (decide ((131072 : Int) < (↑s.length : Int)) = false →
 s_2.m.length ≤ (9223372036854775807 : Nat) ∧
 (decide ((4096 : Int) ≤ (↑s_2.m.length : Int)) = true →
 ((!(mget s_2.m (IntKind.u64.wrap (IntKind.u64.wrap s_2.i + (1 : Int)))).isSome) = true →
 false = true) ∧
 ((!(mget s_2.m (IntKind.u64.wrap (IntKind.u64.wrap s_2.i + (1 : Int)))).isSome) = false →
 s_2.m.length ≤ (9223372036854775807 : Nat) ∧
 (decide ((4096 : Int) ≤ (↑s_2.m.length : Int)) = true →
 ∃ s', invB s' ∧
 (256 : Nat) - s'.i.toNat < (256 : Nat) - s_2.i.toNat ∧
 src = src ∧
 dst = dst ∧
 s = s ∧
 more = more ∧
 IntKind.i64.wrap (s_2.i + (1 : Int)) = s'.i ∧
 s_2.last = s'.last ∧
 s_2.m = s'.m) ∧
 (decide ((4096 : Int) ≤ (↑s_2.m.length : Int)) = false →
 false = true))) ∧
 (decide ((4096 : Int) ≤ (↑s_2.m.length : Int)) = false →
 ((!(mget (mput s_2.m (IntKind.u64.wrap (s_2.last + (1 : Int))) (IntKind.u64.wrap (s_2.last + (1 : Int)), IntKind.i64.wrap src, IntKind.i64.wrap dst, s, (0 : Int))) (IntKind.u64.wrap (IntKind.u64.wrap s_2.i + (1 : Int)))).isSome) = true →
 false = true) ∧
 ((!(mget (mput s_2.m (IntKind.u64.wrap (s_2.last + (1 : Int))) (IntKind.u64.wrap (s_2.last + (1 : Int)), IntKind.i64.wrap src, IntKind.i64.wrap dst, s, (0 : Int))) (IntKind.u64.wrap (IntKind.u64.wrap s_2.i + (1 : Int)))).isSome) = false →
 (mput s_2.m (IntKind.u64.wrap (s_2.last + (1 : Int))) (IntKind.u64.wrap (s_2.last + (1 : Int)), IntKind.i64.wrap src, IntKind.i64.wrap dst, s, (0 : Int))).length ≤ (9223372036854775807 : Nat) ∧
 (decide ((4096 : Int) ≤ (↑(mput s_2.m (IntKind.u64.wrap (s_2.last + (1 : Int))) (IntKind.u64.wrap (s_2.last + (1 : Int)), IntKind.i64.wrap src, IntKind.i64.wrap dst, s, (0 : Int))).length : Int)) = true →
 false = true) ∧
 (decide ((4096 : Int) ≤ (↑(mput s_2.m (IntKind.u64.wrap (s_2.last + (1 : Int))) (IntKind.u64.wrap (s_2.last + (1 : Int)), IntKind.i64.wrap src, IntKind.i64.wrap dst, s, (0 : Int))).length : Int)) = false →
 false = true))))))) ∧
 (decide (s_2.i < IntKind.i64.wrap more) = false →
 ((!(mget s_2.m (1 : Int)).isSome) = true →
 ((!(mget s_2.m (2 : Int)).isSome) = true →
 false = true) ∧
 ((!(mget s_2.m (2 : Int)).isSome) = false →
 s_2.m.length ≤ (9223372036854775807 : Nat) ∧
 (decide ((4096 : Int) ≤ (↑s_2.m.length : Int)) = true →
 false = true) ∧
 (decide ((4096 : Int) ≤ (↑s_2.m.length : Int)) = false →
 false = true))) ∧
 ((!(mget s_2.m (1 : Int)).isSome) = false →
 ((!(mget (mdel s_2.m (1 : Int)) (2 : Int)).isSome) = true →
 false = true) ∧
 ((!(mget (mdel s_2.m (1 : Int)) (2 : Int)).isSome) = false →
 (mdel s_2.m (1 : Int)).length ≤ (9223372036854775807 : Nat) ∧
 (decide ((4096 : Int) ≤ (↑(mdel s_2.m (1 : Int)).length : Int)) = true →
 false = true) ∧
 (decide ((4096 : Int) ≤ (↑(mdel s_2.m (1 : Int)).length : Int)) = false →
 (mput (mdel s_2.m (1 : Int)) (IntKind.u64.wrap (s_2.last + (1 : Int))) (IntKind.u64.wrap (s_2.last + (1 : Int)), ((mget (mdel s_2.m (1 : Int)) (2 : Int)).getD ((0 : Int), (0 : Int), (0 : Int), [], (0 : Int))).snd.fst, ((mget (mdel s_2.m (1 : Int)) (2 : Int)).getD ((0 : Int), (0 : Int), (0 : Int), [], (0 : Int))).snd.snd.fst, ((mget (mdel s_2.m (1 : Int)) (2 : Int)).getD ((0 : Int), (0 : Int), (0 : Int), [], (0 : Int))).snd.snd.snd.fst, ((mget (mdel s_2.m (1 : Int)) (2 : Int)).getD ((0 : Int), (0 : Int), (0 : Int), [], (0 : Int))).snd.snd.snd.snd)).length ≤ (9223372036854775807 : Nat) ∧
 (decide ((↑(mput (mdel s_2.m (1 : Int)) (IntKind.u64.wrap (s_2.last + (1 : Int))) (IntKind.u64.wrap (s_2.last + (1 : Int)), ((mget (mdel s_2.m (1 : Int)) (2 : Int)).getD ((0 : Int), (0 : Int), (0 : Int), [], (0 : Int))).snd.fst, ((mget (mdel s_2.m (1 : Int)) (2 : Int)).getD ((0 : Int), (0 : Int), (0 : Int), [], (0 : Int))).snd.snd.fst, ((mget (mdel s_2.m (1 : Int)) (2 : Int)).getD ((0 : Int), (0 : Int), (0 : Int), [], (0 : Int))).snd.snd.snd.fst, ((mget (mdel s_2.m (1 : Int)) (2 : Int)).getD ((0 : Int), (0 : Int), (0 : Int), [], (0 : Int))).snd.snd.snd.snd)).length : Int) = (4096 : Int)) = true →
 true = true) ∧
 (decide ((↑(mput (mdel s_2.m (1 : Int)) (IntKind.u64.wrap (s_2.last + (1 : Int))) (IntKind.u64.wrap (s_2.last + (1 : Int)), ((mget (mdel s_2.m (1 : Int)) (2 : Int)).getD ((0 : Int), (0 : Int), (0 : Int), [], (0 : Int))).snd.fst, ((mget (mdel s_2.m (1 : Int)) (2 : Int)).getD ((0 : Int), (0 : Int), (0 : Int), [], (0 : Int))).snd.snd.fst, ((mget (mdel s_2.m (1 : Int)) (2 : Int)).getD ((0 : Int), (0 : Int), (0 : Int), [], (0 : Int))).snd.snd.snd.fst, ((mget (mdel s_2.m (1 : Int)) (2 : Int)).getD ((0 : Int), (0 : Int), (0 : Int), [], (0 : Int))).snd.snd.snd.snd)).length : Int) = (4096 : Int)) = false →
 false = true)))))))

theorem owed_eq (src dst more : Int) (s : List UInt8) (invA invB : NS → Prop) : owed src dst more s invA invB = vF Try.prog S1 (vC Try.prog S1 (L1 src dst more s invA invB) 1000) 3 [.sI .u8 src, .sI .u8 dst, .sS s, .sI .u8 more] H0 (fun v _ => isB v true) := by kernel_rfl
end
end Go.Proofs.Ytdeoahhofhmgfaa.NetFull
