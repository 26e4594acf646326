/- A part of the proof that 'reevelaw28.ShardNone' returns true for every input. No condition. -/
import Derived.Test.YtbopjjagjkjnlaaAmPure
import Derived.Test.YtbopjjagjkjnlaaProg
import Derived.KernelRfl
namespace Go.Proofs.Ytbopjjagjkjnlaa.ShardNone
open Go.AM
noncomputable section
theorem mixed : Try.prog.follows .mixedOrders = true := by kernel_rfl
structure One where
  n : Nat
def paths : List Nat := [7, 11, 13, 14, 16, 24, 52, 86, 114, 88]
def noS : SumP := fun f _ _ => bif natMem f paths then some .path else none
def frL (fr : Fr) : List (Nat × AV) := (tix id fr).filterMap fun t => (fr.get t).map fun v => (t, v)
def dropT : T AObj → T AObj
  | .nil => .nil
  | .node l v r => .node (dropT l) (match v with
    | some (.loop ..) => none
    | some (.mIter ..) => none
    | some (.sIter ..) => none
    | v => v) (dropT r)
mutual
def nmsV : AV → List Nat
  | .ptr i _ => [i]
  | .slc i _ _ _ _ => [i]
  | .map i => [i]
  | .yld i => [i]
  | .eptr i _ _ => [i]
  | .sw i => [i]
  | .ss i _ _ => [i]
  | .fn _ a b => nmsL a ++ nmsL b
  | .iface _ v => nmsV v
  | .agg cs => nmsL cs
  | .tup cs => nmsL cs
  | _ => []
def nmsL : List AV → List Nat
  | [] => []
  | v :: vs => nmsV v ++ nmsL vs
end
def nmsO : AObj → List Nat
  | .cells _ _ cs _ => nmsL cs
  | .map es _ => es.flatMap fun e => nmsV e.key ++ nmsV e.val
  | _ => []
def reach (H : Heap) : Nat → List Nat → List Nat → List Nat
  | 0, _, seen => seen
  | _ + 1, [], seen => seen
  | f + 1, i :: l, seen => bif natMem i seen then reach H f l seen else reach H f (match H.get i with
    | some o => nmsO o ++ l
    | none => l) (i :: seen)
def keepT (ks : List Nat) (g : Nat → Nat) : T AObj → T AObj
  | .nil => .nil
  | .node l v r => .node (keepT ks (fun k => g (2 * k + 1)) l) (bif natMem (g 0) ks then v else none) (keepT ks (fun k => g (2 * k + 2)) r)
def gcH (fl : List (Nat × AV)) (H : Heap) : Heap := { t := keepT (reach H 1000 (nmsL (fl.map (·.2))) []) id (dropT H.t), next := H.next }
def cutG (slot : Nat) (mk : Nat → AV) (objs : List AObj) : LInv := ⟨One, fun _ => True, fun _ fr H => (frL fr ++ [(slot, mk H.next)], gcH (frL fr ++ [(slot, mk H.next)]) (objs.foldl Heap.alloc { t := H.t, next := H.next })), fun _ => 0⟩
def cutV (slot : Nat) (mk : Nat → AV) (objs : List AObj) : LInv := ⟨One, fun _ => True, fun _ fr H => (frL fr ++ [(slot, mk H.next)], objs.foldl Heap.alloc { t := dropT H.t, next := H.next }), fun _ => 0⟩
def L1 : LTab := fun f k _ => match f, k with
  | 13, 1000002 => some (cutV 3 (fun n => .slc n 0 2 2 false) [.cells false 1 [.int .i64 0, .int .i64 1] none])
  | 11, 1000012 => some (cutG 13 (fun n => .slc n 0 1 2 false) [.cells false 1 [.int .i64 1, .int .i64 0] none])
  | _, _ => none
theorem noS_ok {P : Program} {B : Nat} : SumPOk P B noS := fun f _ _ s h => by
  unfold noS at h
  cases hb : natMem f paths with
  | false => rw [hb] at h; cases h
  | true => rw [hb] at h; cases h; trivial
def owedW : Prop := ((∃ _s : One, True ∧ True) ∧ ∃ _s : One, True ∧ True) ∧ ∀ (_s : One), True → ((∃ _s : One, True ∧ True) ∧ ∃ _s : One, True ∧ True) ∧ ∀ (_s : One), True → ((∃ _s : One, True ∧ True) ∧ ∃ _s : One, True ∧ True) ∧ ∀ (_s : One), True → true = true
theorem owedW_eq : owedW = vTop Try.prog noS L1 20000 11 [] H0 (fun v _ => isB v true) := by kernel_rfl
theorem owedW_ok : owedW := ⟨⟨⟨⟨0⟩, trivial, trivial⟩, ⟨⟨0⟩, trivial, trivial⟩⟩, fun _ _ => ⟨⟨⟨⟨0⟩, trivial, trivial⟩, ⟨⟨0⟩, trivial, trivial⟩⟩, fun _ _ => ⟨⟨⟨⟨0⟩, trivial, trivial⟩, ⟨⟨0⟩, trivial, trivial⟩⟩, fun _ _ => rfl⟩⟩⟩
theorem works11 {B : Nat} : WF Try.prog B 11 [] H0 (fun v _ => isB v true) := WF.owe (Owe.of owedW_eq owedW_ok) mixed noS_ok
theorem works_ok {B : Nat} {H : Heap} : WF Try.prog B 11 [] H (fun v H' => v = .bool true ∧ H' = H) :=
  WF.reval (WF.pureB (b := true) works11 rfl) fun v H' ρ x hv hr => ⟨.bool true, ⟨rfl, hv.2⟩, by rw [hv.1] at hr; simp only [Rel] at hr ⊢; exact hr⟩
def S1 : SumP := fun f args _ => match f, args with
  | 11, [] => some (.val (.bool true))
  | _, _ => none
def noL : LTab := fun _ _ _ => none
theorem sum_ok {B : Nat} : SumPOk Try.prog B S1 := by
  intro f args H s h
  unfold S1 at h
  split at h
  · cases h; exact works_ok
  · cases h
def owed : Prop := true = true
theorem owed_eq (machine : Int) : owed = vTop Try.prog S1 noL 20000 7 [.sI .i64 machine] H0 (fun v _ => isB v true) := by kernel_rfl
theorem ran {B : Nat} (machine : Int) (_h : IntKind.i64.has machine) : WF Try.prog B 7 [.sI .i64 machine] H0 (fun v _ => isB v true) :=
  WF.owe (Owe.of (owed_eq machine) rfl) mixed sum_ok
end
end Go.Proofs.Ytbopjjagjkjnlaa.ShardNone
