/- A part of the proofs about sorting numbers (uint64): sorting moves them about. No condition. -/
import Derived.Test.YtdeoahhofhmgfaaPqPf
namespace Go.Proofs.Ytdeoahhofhmgfaa.Sz
open Go.AM
noncomputable section
theorem pdq {B : Nat} : ∀ (N : Nat) (a b l : Int) (rows : List Int), 0 ≤ a → a ≤ b → b ≤ rows.length → rows.length < 4611686018427387904 → b - a < N → WF Try.prog B 112 (.sw 0 :: sI64 [a, b, l]) (hS rows) (postN fun r => r.Perm rows)
  | 0, a, b, l, rows, h0, hab, _, _, h => by omega
  | N + 1, a, b, l, rows, h0, hab, hb, hn, h =>
    WF.owe (Owe.of (Pq.owed_eq a b l (b - a) rows _ _ _ _) (Pq.pq_ok h0 hab hb hn)) mixed (S2_ok fun a' b' l' rows' g0 gab gb gn gh => pdq N a' b' l' rows' g0 gab gb gn (by omega))
/-- slices.Sort (uint64): the numbers are moved about. -/
def S3 : SumP := S2 9223372036854775807
theorem S3_ok {B : Nat} : SumPOk Try.prog B S3 := S2_ok fun a b l rows h0 hab hb hn _ => pdq rows.length.succ a b l rows h0 hab hb hn (by simp only [Nat.succ_eq_add_one]; omega)
end
end Go.Proofs.Ytdeoahhofhmgfaa.Sz
