/- THE ABSTRACT MACHINE, 28: from a call that hands back true to a row's last step. -/
import Derived.Test.YtdeoahhofhmgfaaAmPure
import Derived.ProofKit
import Derived.ChangeArms
import Derived.OpenShut
set_option linter.unusedSimpArgs false
set_option linter.unusedVariables false
namespace Go.AM
open Go.ChangeShapes Go.WideShapes Go.ChangeAt Go.RowKit

/-- What lies in the blocks at the beginning. -/
def fz0 (W : World) : Nat → Option (Array Value) := fun b => match W.heap[b]? with
  | some (.cells c _ _) => some c
  | _ => none

def ρ0 (W : World) : Env := ⟨[], fz0 W⟩

theorem fz0_inv {W : World} {b : Nat} {c : Array Value} (h : fz0 W b = some c) : ∃ ty f, W.heap[b]? = some (.cells c ty f) := by
  unfold fz0 at h
  split at h
  · rename_i c' ty f hb; cases h; exact ⟨ty, f, hb⟩
  · cases h

theorem fz0_of {W : World} {b : Nat} {c : Array Value} {ty : TypeId} {f : Nat × Nat} (h : W.heap[b]? = some (.cells c ty f)) : fz0 W b = some c := by
  unfold fz0; rw [h]

theorem HR.start (W : World) : HR W.heap.size (ρ0 W) H0 W where
  next := rfl
  base := Nat.le_refl _
  bnd := fun b hb => by obtain ⟨e, he, _⟩ := hb; cases he
  obj := fun i o hi => by simp [H0, Heap.get] at hi
  inj := fun i j o o' e e' hi => by simp [H0, Heap.get] at hi
  fz := fun b c hb => by obtain ⟨ty, f, h⟩ := fz0_inv hb; exact ⟨c, ty, f, h, fun _ _ h => h⟩
  fzo := fun i o e c hi => by simp [H0, Heap.get] at hi

theorem Ext.toBelow {B : Nat} {ρ ρ' : Env} {w w' : World} (h : Ext B ρ w ρ' w') : Below B w w' := ⟨h.os, h.tape, h.output, h.size, h.below⟩

theorem law_calls {P : Program} {f : FuncId} {avs : List AV} {args : Array Value} {W : World} (h : WF P W.heap.size f avs H0 fun v _ => isB v true) (hr : RelL (ρ0 W) avs args.toList) :
    Calls P f args W fun e W' => e = .returned (.bool true) ∧ Below W.heap.size W W' :=
  (h (ρ0 W) W args (HR.start W) hr).mono fun e W' ⟨v, x, H', ρ', he, hv, hx, _, hrel⟩ => by
    have := isB_rel hv hrel
    simp only [Rel] at this
    subst this
    exact ⟨he, hx.toBelow⟩

section
variable {H : Type} {enc : TypeId × Value → H} {P : Program}

theorem trodAll_below (hl : laidOutB P = true) {W W' : World} (hb : Below W.heap.size W W') : ∀ {ts : List TypeId} {vs : List Value} {ds : List (DataW H)} {ps : List MemPlace},
    (∀ t ∈ ts, P.readableRec t = true ∧ t < P.types.size) → DataW.TrodAll enc P W 0 (fun _ => true) true ts vs ds ps → (∀ x ∈ ps, x.block < W.heap.size) →
    DataW.TrodAll enc P W' 0 (fun b => decide (b < W.heap.size)) true ts vs ds ps
  | [], vs, ds, ps, _, h, _ => by
    cases vs <;> cases ds <;> simp only [DataW.TrodAll] at h ⊢ <;> exact h
  | t :: ts, vs, ds, ps, hts, h, hlt => by
    cases vs with
    | nil => simp [DataW.TrodAll] at h
    | cons v vs =>
      cases ds with
      | nil => simp [DataW.TrodAll] at h
      | cons d ds =>
        simp only [DataW.TrodAll] at h ⊢
        obtain ⟨p, q, h1, h2, rfl⟩ := h
        obtain ⟨k1, k2⟩ := hts t (List.mem_cons_self ..)
        exact ⟨p, q, Below.trod hl k1 k2 h1 hb fun x hx => hlt x (List.mem_append_left _ hx), trodAll_below hl hb (fun t ht => hts t (List.mem_cons_of_mem _ ht)) h2 fun x hx => hlt x (List.mem_append_right _ hx), rfl⟩

/-- The law returns true; the arguments read as they read. -/
theorem law_post {f : Func} {s : ChangeSpec} {apart fresh handsOn : Bool} {W W' : World} {args : Array Value} {ds gs : List (DataW H)} {before : List MemPlace} {tb : TypeId}
    (hl : laidOutB P = true) (hts : ∀ t ∈ f.params.toList, P.readableRec t = true ∧ t < P.types.size) (hW : DataW.Whole enc P f.params.toList s.vars apart W args.toList ds gs before) (hvars : s.vars = [])
    (hres : f.resultTypes = #[tb]) (htb : P.underlying tb = some .bool) (hfn : s.fn H ds = { results := [.lit (.bool true)], args := ds }) (hB : Below W.heap.size W W') :
    s.post enc P f apart fresh handsOn false W args (.bool true) W' := by
  have hW' := hW
  obtain ⟨p, q, hA, hV, rfl, _, _⟩ := hW'
  rw [hvars] at hV
  obtain ⟨rfl, rfl⟩ := trodVars_none hV
  have hlt : ∀ x ∈ p, x.block < W.heap.size := fun x hx => hW.lt x (List.mem_append_left _ hx)
  refine ⟨ds, [], _, [], p, [], hW, ?_, ?_, ?_, hB.frame _, fun h => by cases h⟩
  · rw [List.append_nil, hfn, hres]
    exact trodAll_mk1 (shut_bool htb true)
  · rw [List.append_nil, hfn]
    exact trodAll_below hl hB hts hA hlt
  · rw [List.append_nil, hfn, hvars]
    rfl

theorem rel_bytes (ρ : Env) (s : ByteArray) (h : s.size ≤ maxI) : Rel ρ (.sS s.data.toList) (.string s) := by
  simp only [Rel]
  exact ⟨trivial, h⟩

/-! ### Arguments of plain cells -/
inductive Shp where
  | num (k : IntKind)
  | txt
  | boo

def Shp.Is : Shp → AV → Prop
  | .num k, a => ∃ n, k.has n ∧ a = .sI k n
  | .txt, a => ∃ t, t.length ≤ maxI ∧ a = .sS t
  | .boo, a => ∃ t, a = .sB t

def IsL : List Shp → List AV → Prop
  | [], as => as = []
  | s :: ss, as => ∃ a as', as = a :: as' ∧ s.Is a ∧ IsL ss as'

def shp (P : Program) (u : TypeId) : Option Shp := match P.underlying u with
  | some (.int k) => some (.num k)
  | some .string => some .txt
  | some .bool => some .boo
  | _ => none

theorem str_le {s : ByteArray} (h : (s.size : Int) ≤ IntKind.i64.max) : s.size ≤ maxI := by
  have : IntKind.i64.max = 9223372036854775807 := by decide
  rw [this] at h; simp only [maxI]; omega

theorem cell_sym {ρ : Env} {w : World} {r : Reach} {base : Nat} {u : TypeId} {v : Value} {s : Shp} (h : Cell.okWide P w r base u v) (hs : shp P u = some s) : ∃ a, s.Is a ∧ Rel ρ a v := by
  unfold shp at hs
  unfold Cell.okWide at h
  unfold Cell.ok at h
  split at hs
  · rename_i k hu
    cases hs
    rw [hu] at h
    cases v <;> simp only at h
    obtain ⟨rfl, hn⟩ := h
    exact ⟨.sI _ _, ⟨_, hn, rfl⟩, by simp only [Rel]; exact ⟨trivial, hn⟩⟩
  · rename_i hu
    cases hs
    rw [hu] at h
    cases v <;> simp only at h
    have hlen := str_le h
    exact ⟨_, ⟨_, hlen, rfl⟩, rel_bytes ρ _ hlen⟩
  · rename_i hu
    cases hs
    rw [hu] at h
    cases v <;> simp only at h
    rename_i b
    exact ⟨.sB b, ⟨_, rfl⟩, by simp only [Rel]⟩
  · cases hs

theorem cells_sym {ρ : Env} {w : World} {r : Reach} {base : Nat} : ∀ {ts : List TypeId} {vs : List Value} {ss : List Shp}, vs.length = ts.length → (∀ (i : Nat) (v : Value), vs[i]? = some v → ∃ u, ts[i]? = some u ∧ Cell.okWide P w r base u v) → ts.mapM (shp P) = some ss →
    ∃ as, IsL ss as ∧ RelL ρ as vs
  | [], [], ss, _, _, hs => by simp at hs; subst hs; exact ⟨[], rfl, rfl⟩
  | [], v :: vs, _, hl, _, _ => by simp at hl
  | t :: ts, [], _, hl, _, _ => by simp at hl
  | t :: ts, v :: vs, ss, hl, h, hs => by
    simp only [List.mapM_cons, Option.pure_def, Option.bind_eq_bind, Option.bind_eq_some_iff, Option.some.injEq] at hs
    obtain ⟨s, h1, ss', h2, rfl⟩ := hs
    obtain ⟨u, hu, hc⟩ := h 0 v rfl
    simp at hu; subst hu
    obtain ⟨a, ha, hr⟩ := cell_sym (ρ := ρ) hc h1
    obtain ⟨as, has, hrs⟩ := cells_sym (ρ := ρ) (by simpa using hl) (fun i v hv => by have := h (i + 1) v (by simpa using hv); simpa using this) h2
    exact ⟨a :: as, ⟨a, as, rfl, ha, has⟩, v, vs, rfl, hr, hrs⟩

/-- A plain argument. -/
theorem arg_sym {ρ : Env} {w : World} {r : Reach} {base : Nat} {t : TypeId} {v : Value} {s : Shp} (h : Value.okWide P w r base t v) (hs : shp P t = some s) : ∃ a, s.Is a ∧ Rel ρ a v := by
  refine cell_sym (P := P) (w := w) (r := r) (base := base) (u := t) ?_ hs
  unfold Value.okWide at h
  unfold shp at hs
  split at hs <;> rename_i hu <;> first
    | (rw [hu] at h; exact h)
    | cases hs

def isStructD : Option TypeDesc → Bool
  | some (.struct _) => true
  | _ => false

def shps (P : Program) (t : TypeId) : Option (List Shp) := match P.cellTypes P.depth t with
  | some ts => bif Nat.beq (P.cellsOf t) ts.length then ts.mapM (shp P) else none
  | none => none

/-- A struct of plain cells. -/
theorem struct_sym {ρ : Env} {w : World} {r : Reach} {base : Nat} {t : TypeId} {v : Value} {ss : List Shp} (h : Value.okWide P w r base t v) (hu : isStructD (P.underlying t) = true)
    (hs : shps P t = some ss) : ∃ as, IsL ss as ∧ Rel ρ (.agg as) v := by
  unfold isStructD at hu
  split at hu
  · rename_i fs hu'
    unfold shps at hs
    split at hs
    · rename_i ts hts
      cases hn : Nat.beq (P.cellsOf t) ts.length with
      | false => rw [hn] at hs; cases hs
      | true =>
        rw [hn, cond_true] at hs
        have hn' := Nat.eq_of_beq_eq_true hn
        unfold Value.okWide at h
        rw [hu'] at h
        simp only at h
        obtain ⟨cs, rfl, hsz, ts', hts', _, hc⟩ := h
        rw [hts] at hts'
        cases hts'
        have key : ∀ (i : Nat) (v : Value), cs.toList[i]? = some v → ∃ u, ts[i]? = some u ∧ Cell.okWide P w r base u v := by
          intro i v hv
          have hv' : cs[i]? = some v := by simpa using hv
          obtain ⟨u, hu', hcell⟩ := hc i v hv'
          have hlt : i < ts.length := by have := (Array.getElem?_eq_some_iff.1 hv').1; omega
          rw [Nat.mod_eq_of_lt hlt] at hu'
          exact ⟨u, hu', hcell⟩
        obtain ⟨as, h1, h2⟩ := cells_sym (ρ := ρ) (P := P) (w := w) (r := r) (base := base) (vs := cs.toList) (ts := ts) (by simpa using hsz.trans hn') key hs
        exact ⟨as, h1, cs, rfl, h2⟩
    · cases hs
  · cases hu


/-! ### Slices of rows -/
def RTy.app : RTy → RTy → RTy
  | .one c, r => .cons c r
  | .cons c s, r => .cons c (RTy.app s r)

theorem RTy.app_size : ∀ (a b : RTy), (a.app b).size = a.size + b.size
  | .one c, r => by simp [RTy.app, RTy.size]; omega
  | .cons c s, r => by simp [RTy.app, RTy.size, RTy.app_size s r]; omega

theorem RTy.app_rd {σ : Nat → Option (Array Value)} {b : RTy} {db : b.den} {ys : List Value} (hb : RTy.Rd σ b db ys) : ∀ (a : RTy) (da : a.den) (xs : List Value), RTy.Rd σ a da xs → ∃ d, RTy.Rd σ (a.app b) d (xs ++ ys)
  | .one c, da, xs, h => by
    simp only [RTy.Rd] at h
    obtain ⟨y, rfl, h⟩ := h
    exact ⟨(da, db), by simp only [RTy.app, RTy.Rd]; exact ⟨y, ys, rfl, h, hb⟩⟩
  | .cons c s, da, xs, h => by
    simp only [RTy.Rd] at h
    obtain ⟨y, ys', rfl, h1, h2⟩ := h
    obtain ⟨d, hd⟩ := RTy.app_rd hb s da.2 ys' h2
    exact ⟨(da.1, d), by simp only [RTy.app, RTy.Rd]; exact ⟨y, ys' ++ ys, rfl, h1, hd⟩⟩

/-- The rows of a struct's fields. -/
def tyF (P : Program) (g : TypeId → Option RTy) : List Field → Nat → Option RTy
  | [], _ => none
  | f :: fs, j => (g f.type).bind fun r => bif Nat.beq f.offset j && Nat.beq r.size (P.cellsOf f.type) then
      match fs with
      | [] => some r
      | fs => (tyF P g fs (j + r.size)).map (RTy.app r)
    else none

def tyR (P : Program) : Nat → TypeId → Option RTy
  | 0, _ => none
  | d + 1, t => match P.underlying t with
    | some .bool => some (.one .boo)
    | some (.int k) => some (.one (.int k))
    | some .string => some (.one .txt)
    | some (.struct fs) => (tyF P (tyR P d) fs.toList 0).bind fun r => bif Nat.beq r.size (P.cellsOf t) then some r else none
    | _ => none

theorem tyF_rd {σ : Nat → Option (Array Value)} {g : TypeId → Option RTy} {rd : TypeId → List Value → Prop} (hg : ∀ t r cs, rd t cs → g t = some r → ∃ d, RTy.Rd σ r d cs) {cs : List Value} :
    ∀ (fs : List Field) (j : Nat) (r : RTy), tyF P g fs j = some r → (∀ f ∈ fs, rd f.type ((cs.drop f.offset).take (P.cellsOf f.type))) → ∃ d, RTy.Rd σ r d ((cs.drop j).take r.size)
  | [], j, r, h, _ => by cases h
  | f :: fs, j, r, h, hf => by
    unfold tyF at h
    rw [Option.bind_eq_some_iff] at h
    obtain ⟨rf, h1, h2⟩ := h
    cases hb : (Nat.beq f.offset j && Nat.beq rf.size (P.cellsOf f.type)) with
    | false => rw [hb] at h2; cases h2
    | true =>
      rw [hb, cond_true] at h2
      rw [Bool.and_eq_true] at hb
      have e1 := Nat.eq_of_beq_eq_true hb.1
      have e2 := Nat.eq_of_beq_eq_true hb.2
      obtain ⟨d, hd⟩ := hg _ _ _ (hf f (List.mem_cons_self ..)) h1
      rw [e1, ← e2] at hd
      split at h2
      · cases h2; exact ⟨d, hd⟩
      · rw [Option.map_eq_some_iff] at h2
        obtain ⟨r2, h3, rfl⟩ := h2
        obtain ⟨d2, hd2⟩ := tyF_rd hg fs _ _ h3 fun f hm => hf f (List.mem_cons_of_mem _ hm)
        obtain ⟨d3, hd3⟩ := RTy.app_rd hd2 rf d _ hd
        refine ⟨d3, ?_⟩
        rw [RTy.app_size, List.take_add, List.drop_drop]
        exact hd3

theorem trod_rd {W : World} : ∀ (fuel : Nat) (t : TypeId) (cs : List Value) (x : DataW H × List MemPlace), DataW.trod enc P W 0 (fun _ => true) true fuel t cs = some x → ∀ (D : Nat) (r : RTy), tyR P D t = some r → ∃ d, RTy.Rd (fz0 W) r d cs
  | 0, t, cs, x, h, _, _, _ => by simp [DataW.trod] at h
  | fuel + 1, t, cs, x, h, 0, r, hr => by cases hr
  | fuel + 1, t, cs, x, h, D + 1, r, hr => by
    unfold tyR at hr
    split at hr
    · rename_i hu
      cases hr
      obtain ⟨b, rfl, _⟩ := DataW.trod_bool hu h
      exact ⟨b, by simp only [RTy.Rd]; exact ⟨_, rfl, by simp only [CTy.Rd]⟩⟩
    · rename_i k hu
      cases hr
      obtain ⟨n, rfl, _, hw⟩ := DataW.trod_int hu h
      have hk : k.has n := by simpa [Lit.wf, IntKind.has] using hw
      exact ⟨(n : Int), by simp only [RTy.Rd]; refine ⟨_, rfl, ?_⟩; simp only [CTy.Rd]; exact ⟨trivial, hk⟩⟩
    · rename_i hu
      cases hr
      obtain ⟨s, rfl, _, hl⟩ := DataW.trod_string hu h
      have hl' : s.size ≤ maxI := hl
      exact ⟨s.data.toList, by simp only [RTy.Rd]; refine ⟨_, rfl, ?_⟩; simp only [CTy.Rd]; exact ⟨trivial, hl'⟩⟩
    · rename_i fs hu
      rw [Option.bind_eq_some_iff] at hr
      obtain ⟨r', h1, h2⟩ := hr
      cases hb : Nat.beq r'.size (P.cellsOf t) with
      | false => rw [hb] at h2; cases h2
      | true =>
        rw [hb, cond_true] at h2
        cases h2
        obtain ⟨xs, n, hn, _, hl, hxl, hf⟩ := DataW.trod_struct hu h
        obtain rfl : fuel = n := by omega
        obtain ⟨d, hd⟩ := tyF_rd (P := P) (σ := fz0 W) (g := tyR P D) (cs := cs) (rd := fun t cs => ∃ x, DataW.trod enc P W 0 (fun _ => true) true fuel t cs = some x)
          (fun t r cs ⟨x, hx⟩ hg => trod_rd fuel t cs x hx D r hg) fs.toList 0 r h1 (fun f hm => by
            obtain ⟨i, hi⟩ := List.mem_iff_getElem?.1 hm
            have hi' : fs[i]? = some f := by simpa using hi
            have hlt : i < xs.length := by rw [hxl]; exact (Array.getElem?_eq_some_iff.1 hi').1
            exact ⟨xs[i], by rw [hf i f hi']; exact List.getElem?_eq_getElem hlt⟩)
        have e := Nat.eq_of_beq_eq_true hb
        rw [List.drop_zero, e, ← hl, List.take_length] at hd
        exact ⟨d, hd⟩
    · cases hr

theorem choose_list {α : Type} {p : Nat → α → Prop} : ∀ (n : Nat), (∀ i, i < n → ∃ a, p i a) → ∃ l : List α, l.length = n ∧ ∀ i a, l[i]? = some a → p i a
  | 0, _ => ⟨[], rfl, fun i a h => by simp at h⟩
  | n + 1, h => by
    obtain ⟨l, h1, h2⟩ := choose_list n fun i hi => h i (by omega)
    obtain ⟨a, ha⟩ := h n (by omega)
    refine ⟨l ++ [a], by simp [h1], fun i b hb => ?_⟩
    rw [List.getElem?_append] at hb
    split at hb
    · exact h2 i b hb
    · rename_i hi
      have : i = n := by
        have := (List.getElem?_eq_some_iff.1 hb).1
        simp at this; omega
      subst this
      simp [h1] at hb
      rw [← hb]; exact ha

/-- A slice of rows, as an argument. -/
theorem slice_symE {W : World} {rc : Reach} {base : Nat} {t e : TypeId} {v : Value} {d : DataW H} {ps : List MemPlace} {r : RTy} (E : r.den → DataW H → Prop) (h : DataW.Trod enc P W 0 (fun _ => true) true t v d ps) (hv : Value.okWide P W rc base t v)
    (hu : P.underlying t = some (.slice e)) (hE : ∀ (n : Nat) (cs : List Value) (x : DataW H × List MemPlace), DataW.trod enc P W 0 (fun _ => true) true n e cs = some x → ∃ d, RTy.Rd (fz0 W) r d cs ∧ E d x.1) (hs : Nat.beq r.size (P.cellsOf e) = true) :
    ∃ rows : List r.den, Rel (ρ0 W) (.dsl r rows) v ∧ ((d = .nil ∧ rows = []) ∨ ∃ es sp, d = .slice es sp ∧ es.length = rows.length ∧ ∀ (i : Nat) (row : r.den) (x : DataW H), rows[i]? = some row → es[i]? = some x → E row x) := by
  have hv1 : Cell.okWide P W rc base t v := by unfold Value.okWide at hv; rw [hu] at hv; exact hv
  unfold Cell.okWide at hv1
  rw [hu] at hv1
  have hv2 : Cell.ok P W rc base t v := by cases v <;> exact hv1
  unfold Cell.ok at hv2
  rw [hu] at hv2
  have hsz := Nat.eq_of_beq_eq_true hs
  obtain ⟨fuel, hfuel⟩ := h
  have hc : (∃ b l c, v = .slice b l c) ∧ ∀ a l c, v = .slice (some a) l c → a.spot = none := by
    cases v <;> first | (exact hv2.elim) | skip
    rename_i b l c
    refine ⟨⟨b, l, c, rfl⟩, fun a l' c' h => ?_⟩
    cases h
    exact hv2.2.2.2.1
  obtain ⟨⟨b, l, c, rfl⟩, hspot⟩ := hc
  rcases DataW.trod_slice hu hfuel with ⟨h1, hx⟩ | ⟨a, len, cap, elems, rest, n, hn, h1, hx, _, hlc, hcm, hel, hget, _, _⟩
  · have h1' : Value.slice b l c = .slice none 0 0 := by simpa [Value.cells] using h1
    cases h1'
    refine ⟨([] : List r.den), ?_, .inl ⟨by simpa using congrArg Prod.fst hx, rfl⟩⟩
    simp only [Rel, CTy.Rd]
    exact ⟨none, 0, rfl, Nat.le_refl _, Nat.zero_le _, fun _ => rfl, (fun a h => by cases h), fun k row hk => by simp at hk⟩
  · have h1' : Value.slice b l c = .slice (some a) len cap := by simpa [Value.cells] using h1
    obtain ⟨rfl, rfl, rfl⟩ : b = some a ∧ l = len ∧ c = cap := by simpa using h1'
    have hsp := hspot a l c rfl
    obtain ⟨rows, hl, hrows⟩ := choose_list (α := r.den) (p := fun i row => ∃ cs', W.cells? 0 (a.add (i * P.cellsOf e)) (P.cellsOf e) = some cs' ∧ RTy.Rd (fz0 W) r row cs' ∧ ∀ x, (elems.map (·.1))[i]? = some x → E row x) l fun i hi => by
      have g := hget i hi
      have hi' : i < elems.length := by omega
      rw [List.getElem?_eq_getElem hi', Option.bind_eq_some_iff] at g
      obtain ⟨cs', g1, g2⟩ := g
      obtain ⟨d, hd, hEd⟩ := hE n cs' _ g2
      exact ⟨d, cs', g1, hd, fun x hx => by
        rw [List.getElem?_map, List.getElem?_eq_getElem hi'] at hx
        cases hx; exact hEd⟩
    refine ⟨rows, ?_, .inr ⟨elems.map (·.1), rest.map (·.1), by simpa using congrArg Prod.fst hx, by rw [List.length_map, hl, hel], fun i row x h1 h2 => let ⟨_, _, _, g⟩ := hrows i row h1; g x h2⟩⟩
    simp only [Rel, CTy.Rd]
    have hcm' : c ≤ maxI := hcm
    refine ⟨some a, c, by rw [hl], by rw [hl]; exact hlc, by rw [hl]; omega, (fun h => by cases h), (fun a' h => by cases h; exact hsp), fun k row hk => ?_⟩
    obtain ⟨cs', g1, g2, _⟩ := hrows k row hk
    have hlen := g2.length
    unfold World.cells? at g1
    rw [if_pos (Nat.zero_le _)] at g1
    have cell : ∀ (j : Nat) (y : Value), cs'[j]? = some y → W.cell? ⟨a.block, a.off + k * r.size + j, none⟩ = some y := by
      intro j y hj
      have hj' : j < r.size := by have := (List.getElem?_eq_some_iff.1 hj).1; omega
      have q := mapM_some_get g1 j j (by rw [List.getElem?_range (by omega)])
      rw [hj] at q
      rw [← q, ← hsz]
      congr 1
      simp only [Addr.add]
      obtain ⟨ab, ao, as⟩ := a
      simp only at hsp
      subst hsp
      by_cases h1 : k * r.size = 0 <;> by_cases h2 : j = 0 <;> simp [h1, h2]
    have hpos : 0 < r.size := by cases r <;> simp [RTy.size]
    obtain ⟨y0, hy0⟩ : ∃ y, cs'[0]? = some y := ⟨cs'[0]'(by omega), List.getElem?_eq_getElem (by omega)⟩
    have c0 := cell 0 y0 hy0
    unfold World.cell? at c0
    split at c0
    · rename_i arr ty f harr
      refine ⟨a.block, a.off, arr, cs', ?_, fz0_of harr, fun j y hj => ?_, g2⟩
      · obtain ⟨ab, ao, as⟩ := a
        simp only at hsp
        subst hsp; rfl
      · have := cell j y hj
        unfold World.cell? at this
        rw [harr] at this
        simpa using this
    · cases c0

/-- A slice of rows, as an argument. -/
theorem slice_sym {W : World} {rc : Reach} {base D : Nat} {t e : TypeId} {v : Value} {d : DataW H} {ps : List MemPlace} {r : RTy} (h : DataW.Trod enc P W 0 (fun _ => true) true t v d ps) (hv : Value.okWide P W rc base t v)
    (hu : P.underlying t = some (.slice e)) (hr : tyR P D e = some r) (hs : Nat.beq r.size (P.cellsOf e) = true) : ∃ rows : List r.den, Rel (ρ0 W) (.dsl r rows) v :=
  let ⟨rows, h1, _⟩ := slice_symE (fun _ _ => True) h hv hu (fun n cs x hx => let ⟨d, hd⟩ := trod_rd n e cs x hx D r hr; ⟨d, hd, trivial⟩) hs
  ⟨rows, h1⟩

/-- Texts, as an argument, and how they are told. -/
theorem texts_sym {W : World} {rc : Reach} {base : Nat} {t e : TypeId} {v : Value} {d : DataW H} {ps : List MemPlace} (h : DataW.Trod enc P W 0 (fun _ => true) true t v d ps) (hv : Value.okWide P W rc base t v)
    (hu : P.underlying t = some (.slice e)) (hr : P.underlying e = some .string) (hs : Nat.beq 1 (P.cellsOf e) = true) :
    ∃ rows : List (List UInt8), Rel (ρ0 W) (.dsl (.one .txt) rows) v ∧ ((d = .nil ∧ rows = []) ∨ ∃ sp, d = .slice (rows.map fun s => .lit (.string s)) sp) := by
  obtain ⟨rows, h1, h2⟩ : ∃ rows : List (List UInt8), Rel (ρ0 W) (.dsl (.one .txt) rows) v ∧ ((d = .nil ∧ rows = []) ∨ ∃ es sp, d = .slice es sp ∧ es.length = rows.length ∧ ∀ (i : Nat) (row : List UInt8) (x : DataW H), rows[i]? = some row → es[i]? = some x → x = .lit (.string row)) := slice_symE (r := .one .txt) (fun (s : List UInt8) (x : DataW H) => x = .lit (.string s)) h hv hu (fun n cs x hx => by
    obtain ⟨s, rfl, hx2, hl⟩ := DataW.trod_string hr hx
    have hl' : s.size ≤ maxI := hl
    exact ⟨s.data.toList, by simp only [RTy.Rd]; refine ⟨_, rfl, ?_⟩; simp only [CTy.Rd]; exact ⟨trivial, hl'⟩, by rw [hx2]⟩) hs
  refine ⟨rows, h1, h2.imp id fun ⟨es, sp, k1, k2, k3⟩ => ⟨sp, ?_⟩⟩
  rw [k1]
  congr 1
  apply List.ext_getElem?
  intro i
  rw [List.getElem?_map]
  cases hi : es[i]? with
  | none =>
    rw [List.getElem?_eq_none_iff] at hi
    rw [List.getElem?_eq_none (by omega)]; rfl
  | some x =>
    have hlt : i < rows.length := by
      have := (List.getElem?_eq_some_iff.1 hi).1
      omega
    rw [List.getElem?_eq_getElem hlt, k3 i _ x (List.getElem?_eq_getElem hlt) hi]; rfl
end
end Go.AM
