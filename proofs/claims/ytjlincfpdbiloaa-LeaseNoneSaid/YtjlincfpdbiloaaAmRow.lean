/- THE ABSTRACT MACHINE, 21: from a call that hands back true to a row's last step. -/
import Derived.Test.YtjlincfpdbiloaaAmEv
import Derived.ProofKit
namespace Go.AM
open Go.ChangeShapes Go.WideShapes Go.ChangeAt Go.RowKit

def H0 : Heap := ⟨.nil, 0⟩

theorem HR.start (W : World) : HR W.heap.size [] H0 W where
  next := rfl
  base := Nat.le_refl _
  bnd := fun e he => by cases he
  obj := fun i o hi => by simp [H0, Heap.get] at hi
  inj := fun i j o o' e e' hi => by simp [H0, Heap.get] at hi

theorem Ext.toBelow {B : Nat} {ρ ρ' : List At} {w w' : World} (h : Ext B ρ w ρ' w') : Below B w w' := ⟨h.os, h.tape, h.output, h.size, h.below⟩

theorem law_calls {P : Program} {f : FuncId} {avs : List AV} {args : Array Value} {W : World} (h : WF P W.heap.size f avs H0 fun v _ => v = .bool true) (hr : RelL [] avs args.toList) :
    Calls P f args W fun e W' => e = .returned (.bool true) ∧ Below W.heap.size W W' :=
  (h [] W args (HR.start W) hr).mono fun e W' ⟨v, x, H', ρ', he, hv, hx, _, hrel⟩ => by
    subst hv
    simp only [Rel] at hrel
    subst hrel
    exact ⟨he, hx.toBelow⟩

section
variable {H : Type} {enc : TypeId × Value → H} {P : Program}

theorem trodAll_below (hl : laidOutB P = true) {W W' : World} (hb : Below W.heap.size W W') : ∀ {ts : List TypeId} {vs : List Value} {ds : List (DataW H)} {ps : List MemPlace},
    (∀ t ∈ ts, P.readableRec t = true ∧ t < P.types.size) → DataW.TrodAll enc P W 0 (fun _ => true) true ts vs ds ps → (∀ x ∈ ps, x.block < W.heap.size) →
    DataW.TrodAll enc P W' 0 (fun b => decide (b < W.heap.size)) true ts vs ds ps
  | [], vs, ds, ps, _, h, _ => by
    cases vs <;> cases ds <;> simp only [DataW.TrodAll] at h ⊢ <;> exact h
  | t :: ts, vs, ds, ps, hts, h, hlt => by
    cases vs with
    | nil => simp [DataW.TrodAll] at h
    | cons v vs =>
      cases ds with
      | nil => simp [DataW.TrodAll] at h
      | cons d ds =>
        simp only [DataW.TrodAll] at h ⊢
        obtain ⟨p, q, h1, h2, rfl⟩ := h
        obtain ⟨k1, k2⟩ := hts t (List.mem_cons_self ..)
        exact ⟨p, q, Below.trod hl k1 k2 h1 hb fun x hx => hlt x (List.mem_append_left _ hx), trodAll_below hl hb (fun t ht => hts t (List.mem_cons_of_mem _ ht)) h2 fun x hx => hlt x (List.mem_append_right _ hx), rfl⟩

/-- The law returns true; the arguments read as they read. -/
theorem law_post {f : Func} {s : ChangeSpec} {apart fresh handsOn : Bool} {W W' : World} {args : Array Value} {ds gs : List (DataW H)} {before : List MemPlace} {tb : TypeId}
    (hl : laidOutB P = true) (hts : ∀ t ∈ f.params.toList, P.readableRec t = true ∧ t < P.types.size) (hW : DataW.Whole enc P f.params.toList s.vars apart W args.toList ds gs before) (hvars : s.vars = [])
    (hres : f.resultTypes = #[tb]) (htb : P.underlying tb = some .bool) (hfn : s.fn H ds = { results := [.lit (.bool true)], args := ds }) (hB : Below W.heap.size W W') :
    s.post enc P f apart fresh handsOn false W args (.bool true) W' := by
  have hW' := hW
  obtain ⟨p, q, hA, hV, rfl, _, _⟩ := hW'
  rw [hvars] at hV
  obtain ⟨rfl, rfl⟩ := trodVars_none hV
  have hlt : ∀ x ∈ p, x.block < W.heap.size := fun x hx => hW.lt x (List.mem_append_left _ hx)
  refine ⟨ds, [], _, [], p, [], hW, ?_, ?_, ?_, hB.frame _, fun h => by cases h⟩
  · rw [List.append_nil, hfn, hres]
    exact trodAll_mk1 (shut_bool htb true)
  · rw [List.append_nil, hfn]
    exact trodAll_below hl hB hts hA hlt
  · rw [List.append_nil, hfn, hvars]
    rfl

theorem rel_bytes (ρ : List At) (s : ByteArray) : Rel ρ (.sS s.data.toList) (.string s) := by
  simp only [Rel]

/-! ### Arguments of plain cells -/
inductive Shp where
  | num (k : IntKind)
  | txt
  | boo

def Shp.Is : Shp → AV → Prop
  | .num k, a => ∃ n, k.has n ∧ a = .sI k n
  | .txt, a => ∃ t, a = .sS t
  | .boo, a => ∃ t, a = .sB t

def IsL : List Shp → List AV → Prop
  | [], as => as = []
  | s :: ss, as => ∃ a as', as = a :: as' ∧ s.Is a ∧ IsL ss as'

def shp (P : Program) (u : TypeId) : Option Shp := match P.underlying u with
  | some (.int k) => some (.num k)
  | some .string => some .txt
  | some .bool => some .boo
  | _ => none

theorem cell_sym {ρ : List At} {w : World} {r : Reach} {base : Nat} {u : TypeId} {v : Value} {s : Shp} (h : Cell.okWide P w r base u v) (hs : shp P u = some s) : ∃ a, s.Is a ∧ Rel ρ a v := by
  unfold shp at hs
  unfold Cell.okWide at h
  unfold Cell.ok at h
  split at hs
  · rename_i k hu
    cases hs
    rw [hu] at h
    cases v <;> simp only at h
    obtain ⟨rfl, hn⟩ := h
    exact ⟨.sI _ _, ⟨_, hn, rfl⟩, by simp only [Rel]⟩
  · rename_i hu
    cases hs
    rw [hu] at h
    cases v <;> simp only at h
    exact ⟨_, ⟨_, rfl⟩, rel_bytes ρ _⟩
  · rename_i hu
    cases hs
    rw [hu] at h
    cases v <;> simp only at h
    rename_i b
    exact ⟨.sB b, ⟨_, rfl⟩, by simp only [Rel]⟩
  · cases hs

theorem cells_sym {ρ : List At} {w : World} {r : Reach} {base : Nat} : ∀ {ts : List TypeId} {vs : List Value} {ss : List Shp}, vs.length = ts.length → (∀ (i : Nat) (v : Value), vs[i]? = some v → ∃ u, ts[i]? = some u ∧ Cell.okWide P w r base u v) → ts.mapM (shp P) = some ss →
    ∃ as, IsL ss as ∧ RelL ρ as vs
  | [], [], ss, _, _, hs => by simp at hs; subst hs; exact ⟨[], rfl, rfl⟩
  | [], v :: vs, _, hl, _, _ => by simp at hl
  | t :: ts, [], _, hl, _, _ => by simp at hl
  | t :: ts, v :: vs, ss, hl, h, hs => by
    simp only [List.mapM_cons, Option.pure_def, Option.bind_eq_bind, Option.bind_eq_some_iff, Option.some.injEq] at hs
    obtain ⟨s, h1, ss', h2, rfl⟩ := hs
    obtain ⟨u, hu, hc⟩ := h 0 v rfl
    simp at hu; subst hu
    obtain ⟨a, ha, hr⟩ := cell_sym (ρ := ρ) hc h1
    obtain ⟨as, has, hrs⟩ := cells_sym (ρ := ρ) (by simpa using hl) (fun i v hv => by have := h (i + 1) v (by simpa using hv); simpa using this) h2
    exact ⟨a :: as, ⟨a, as, rfl, ha, has⟩, v, vs, rfl, hr, hrs⟩

/-- A plain argument. -/
theorem arg_sym {ρ : List At} {w : World} {r : Reach} {base : Nat} {t : TypeId} {v : Value} {s : Shp} (h : Value.okWide P w r base t v) (hs : shp P t = some s) : ∃ a, s.Is a ∧ Rel ρ a v := by
  refine cell_sym (P := P) (w := w) (r := r) (base := base) (u := t) ?_ hs
  unfold Value.okWide at h
  unfold shp at hs
  split at hs <;> rename_i hu <;> first
    | (rw [hu] at h; exact h)
    | cases hs

def isStructD : Option TypeDesc → Bool
  | some (.struct _) => true
  | _ => false

def shps (P : Program) (t : TypeId) : Option (List Shp) := match P.cellTypes P.depth t with
  | some ts => bif Nat.beq (P.cellsOf t) ts.length then ts.mapM (shp P) else none
  | none => none

/-- A struct of plain cells. -/
theorem struct_sym {ρ : List At} {w : World} {r : Reach} {base : Nat} {t : TypeId} {v : Value} {ss : List Shp} (h : Value.okWide P w r base t v) (hu : isStructD (P.underlying t) = true)
    (hs : shps P t = some ss) : ∃ as, IsL ss as ∧ Rel ρ (.agg as) v := by
  unfold isStructD at hu
  split at hu
  · rename_i fs hu'
    unfold shps at hs
    split at hs
    · rename_i ts hts
      cases hn : Nat.beq (P.cellsOf t) ts.length with
      | false => rw [hn] at hs; cases hs
      | true =>
        rw [hn, cond_true] at hs
        have hn' := Nat.eq_of_beq_eq_true hn
        unfold Value.okWide at h
        rw [hu'] at h
        simp only at h
        obtain ⟨cs, rfl, hsz, ts', hts', _, hc⟩ := h
        rw [hts] at hts'
        cases hts'
        have key : ∀ (i : Nat) (v : Value), cs.toList[i]? = some v → ∃ u, ts[i]? = some u ∧ Cell.okWide P w r base u v := by
          intro i v hv
          have hv' : cs[i]? = some v := by simpa using hv
          obtain ⟨u, hu', hcell⟩ := hc i v hv'
          have hlt : i < ts.length := by have := (Array.getElem?_eq_some_iff.1 hv').1; omega
          rw [Nat.mod_eq_of_lt hlt] at hu'
          exact ⟨u, hu', hcell⟩
        obtain ⟨as, h1, h2⟩ := cells_sym (ρ := ρ) (P := P) (w := w) (r := r) (base := base) (vs := cs.toList) (ts := ts) (by simpa using hsz.trans hn') key hs
        exact ⟨as, h1, cs, rfl, h2⟩
    · cases hs
  · cases hu

end
end Go.AM
