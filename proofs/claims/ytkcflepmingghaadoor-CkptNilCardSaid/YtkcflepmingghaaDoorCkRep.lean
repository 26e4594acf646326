/- A part of the proof that 'CkptNil' returns true for every input. No condition. -/
import Derived.Test.YtkcflepmingghaaDoorAmJ
import Derived.Test.YtkcflepmingghaaDoorCkShelf
import Derived.KernelRfl
namespace Go.Proofs.YtkcflepmingghaaDoor.CkptNil
open Go.AM Go.Shelf Go.RowKit
theorem repeat_ok {B : Nat} {H : Heap} {s : List UInt8} {c : Nat} (hc : c ≤ 9223372036854775807) (hl : s.length * c ≤ 140737488355328) :
    WF Tryd.prog B 49 [.str s, .int .i64 (Int.ofNat c)] H fun v H' => v = .str (Lib.repeatL s c) ∧ H' = H :=
  WF.lift fun ρ w xs _ hx => by
    simp only [RelL, Rel] at hx
    obtain ⟨x, l, hxs, rfl, y, l', rfl, rfl, rfl⟩ := hx
    refine ⟨_, rfl, ?_⟩
    obtain ⟨xs⟩ := xs
    simp only at hxs
    subst hxs
    exact Tryd.strings_Repeat ⟨s.toArray⟩ c w hc (by simpa [ByteArray.size] using hl)
end Go.Proofs.YtkcflepmingghaaDoor.CkptNil
