/- THE ABSTRACT MACHINE, 21: from a call that hands back true to a row's last step. -/
import Derived.Test.YthiiijglmplghaaAmEv
import Derived.ProofKit
namespace Go.AM
open Go.ChangeShapes Go.WideShapes Go.ChangeAt Go.RowKit

def H0 : Heap := ⟨.nil, 0⟩

theorem HR.start (W : World) : HR W.heap.size [] H0 W where
  next := rfl
  base := Nat.le_refl _
  bnd := fun e he => by cases he
  obj := fun i o hi => by simp [H0, Heap.get] at hi
  inj := fun i j o o' e e' hi => by simp [H0, Heap.get] at hi

theorem Ext.toBelow {B : Nat} {ρ ρ' : List At} {w w' : World} (h : Ext B ρ w ρ' w') : Below B w w' := ⟨h.os, h.tape, h.output, h.size, h.below⟩

theorem law_calls {P : Program} {f : FuncId} {avs : List AV} {args : Array Value} {W : World} (h : WF P W.heap.size f avs H0 fun v _ => v = .bool true) (hr : RelL [] avs args.toList) :
    Calls P f args W fun e W' => e = .returned (.bool true) ∧ Below W.heap.size W W' :=
  (h [] W args (HR.start W) hr).mono fun e W' ⟨v, x, H', ρ', he, hv, hx, _, hrel⟩ => by
    subst hv
    simp only [Rel] at hrel
    subst hrel
    exact ⟨he, hx.toBelow⟩

section
variable {H : Type} {enc : TypeId × Value → H} {P : Program}

theorem trodAll_below (hl : laidOutB P = true) {W W' : World} (hb : Below W.heap.size W W') : ∀ {ts : List TypeId} {vs : List Value} {ds : List (DataW H)} {ps : List MemPlace},
    (∀ t ∈ ts, P.readableRec t = true ∧ t < P.types.size) → DataW.TrodAll enc P W 0 (fun _ => true) true ts vs ds ps → (∀ x ∈ ps, x.block < W.heap.size) →
    DataW.TrodAll enc P W' 0 (fun b => decide (b < W.heap.size)) true ts vs ds ps
  | [], vs, ds, ps, _, h, _ => by
    cases vs <;> cases ds <;> simp only [DataW.TrodAll] at h ⊢ <;> exact h
  | t :: ts, vs, ds, ps, hts, h, hlt => by
    cases vs with
    | nil => simp [DataW.TrodAll] at h
    | cons v vs =>
      cases ds with
      | nil => simp [DataW.TrodAll] at h
      | cons d ds =>
        simp only [DataW.TrodAll] at h ⊢
        obtain ⟨p, q, h1, h2, rfl⟩ := h
        obtain ⟨k1, k2⟩ := hts t (List.mem_cons_self ..)
        exact ⟨p, q, Below.trod hl k1 k2 h1 hb fun x hx => hlt x (List.mem_append_left _ hx), trodAll_below hl hb (fun t ht => hts t (List.mem_cons_of_mem _ ht)) h2 fun x hx => hlt x (List.mem_append_right _ hx), rfl⟩

/-- The law returns true; the arguments read as they read. -/
theorem law_post {f : Func} {s : ChangeSpec} {apart fresh handsOn : Bool} {W W' : World} {args : Array Value} {ds gs : List (DataW H)} {before : List MemPlace} {tb : TypeId}
    (hl : laidOutB P = true) (hts : ∀ t ∈ f.params.toList, P.readableRec t = true ∧ t < P.types.size) (hW : DataW.Whole enc P f.params.toList s.vars apart W args.toList ds gs before) (hvars : s.vars = [])
    (hres : f.resultTypes = #[tb]) (htb : P.underlying tb = some .bool) (hfn : s.fn H ds = { results := [.lit (.bool true)], args := ds }) (hB : Below W.heap.size W W') :
    s.post enc P f apart fresh handsOn false W args (.bool true) W' := by
  have hW' := hW
  obtain ⟨p, q, hA, hV, rfl, _, _⟩ := hW'
  rw [hvars] at hV
  obtain ⟨rfl, rfl⟩ := trodVars_none hV
  have hlt : ∀ x ∈ p, x.block < W.heap.size := fun x hx => hW.lt x (List.mem_append_left _ hx)
  refine ⟨ds, [], _, [], p, [], hW, ?_, ?_, ?_, hB.frame _, fun h => by cases h⟩
  · rw [List.append_nil, hfn, hres]
    exact trodAll_mk1 (shut_bool htb true)
  · rw [List.append_nil, hfn]
    exact trodAll_below hl hB hts hA hlt
  · rw [List.append_nil, hfn, hvars]
    rfl

theorem rel_bytes (ρ : List At) (s : ByteArray) : Rel ρ (.sS s.data.toList) (.string s) := by
  simp only [Rel]

end
end Go.AM
