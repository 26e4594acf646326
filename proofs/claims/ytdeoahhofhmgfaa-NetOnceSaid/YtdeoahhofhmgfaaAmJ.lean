/- THE ABSTRACT MACHINE, 26: what is shown of a call in a small state holds of it in a large one. -/
import Derived.Test.YtdeoahhofhmgfaaAmI
import Derived.ProofKit
import Derived.ChangeArms
import Derived.OpenShut
import Derived.Test.YtdeoahhofhmgfaaAmE
import Derived.Sort.Grow
set_option linter.unusedSimpArgs false
set_option linter.unusedVariables false
namespace Go.AM
open Go.RowKit

/-! ### Names are given anew -/
mutual
def AV.ren (g : Nat → Nat) : AV → AV
  | .ptr i off => .ptr (g i) off
  | .slc i off len cap ex => .slc (g i) off len cap ex
  | .map i => .map (g i)
  | .fn f a b => .fn f (AV.renL g a) (AV.renL g b)
  | .yld i => .yld (g i)
  | .iface t v => .iface t (AV.ren g v)
  | .agg cs => .agg (AV.renL g cs)
  | .tup cs => .tup (AV.renL g cs)
  | .sw i => .sw (g i)
  | .ss i lo len => .ss (g i) lo len
  | .eptr i k j => .eptr (g i) k j
  | .bool b => .bool b
  | .int k n => .int k n
  | .str s => .str s
  | .nilPtr => .nilPtr
  | .nilSlc => .nilSlc
  | .emp => .emp
  | .nilMap => .nilMap
  | .nilFn => .nilFn
  | .nilIface => .nilIface
  | .sI k n => .sI k n
  | .sB b => .sB b
  | .sS s => .sS s
  | .dsl r rows => .dsl r rows
  | .dptr r row j => .dptr r row j
def AV.renL (g : Nat → Nat) : List AV → List AV
  | [] => []
  | v :: vs => AV.ren g v :: AV.renL g vs
end

def renT (g : Nat → Nat) : T AV → T AV
  | .nil => .nil
  | .node l v r => .node (renT g l) (match v with
    | none => none
    | some v => some (AV.ren g v)) (renT g r)

def renE (g : Nat → Nat) : List Ent → List Ent
  | [] => []
  | e :: es => { key := AV.ren g e.key, val := AV.ren g e.val, born := e.born } :: renE g es

def AObj.ren (g : Nat → Nat) : AObj → AObj
  | .cells ro es cs ty => .cells ro es (AV.renL g cs) ty
  | .map es clock => .map (renE g es) clock
  | .sIter s pos => .sIter s pos
  | .mIter m since seen stepped => .mIter (g m) since seen stepped
  | .loop st pd f fr n ps as bd => .loop st pd f (renT g fr) n ps as bd
  | .seq r rows ty => .seq r rows ty
  | .smap ka va kr vr m bs clk => .smap ka va kr vr m bs clk
  | .smIter m since seen stepped => .smIter (g m) since seen stepped
  | .cmIter m since pre now stepped => .cmIter (g m) since pre now stepped

structure Rn (ρ ρ' : Env) (g : Nat → Nat) : Prop where
  at' : ∀ i e, ρ.ats[i]? = some e → ρ'.ats[g i]? = some e
  fz : FzLe ρ.fz ρ'.fz

section
variable {ρ ρ' : Env} {g : Nat → Nat}

mutual
theorem Rel.ren (h : Rn ρ ρ' g) : ∀ {v : AV} {x : Value}, Rel ρ v x → Rel ρ' (v.ren g) x
  | .sI _ _, _, hr | .sB _, _, hr | .sS _, _, hr | .bool _, _, hr | .int _ _, _, hr | .str _, _, hr | .nilPtr, _, hr | .nilSlc, _, hr | .nilMap, _, hr | .nilFn, _, hr | .nilIface, _, hr | .emp, _, hr => by
    simp only [AV.ren, Rel] at *; exact hr
  | .ptr i off, _, hr => by
    simp only [AV.ren, Rel] at *; obtain ⟨e, he, hx⟩ := hr; exact ⟨e, h.at' _ _ he, hx⟩
  | .slc i off len cap ex, _, hr => by
    simp only [AV.ren, Rel] at *; obtain ⟨e, c, he, hx⟩ := hr; exact ⟨e, c, h.at' _ _ he, hx⟩
  | .map i, _, hr => by
    simp only [AV.ren, Rel] at *; obtain ⟨e, he, hx⟩ := hr; exact ⟨e, h.at' _ _ he, hx⟩
  | .yld i, _, hr => by
    simp only [AV.ren, Rel] at *; obtain ⟨e, he, hx⟩ := hr; exact ⟨e, h.at' _ _ he, hx⟩
  | .eptr i k j, _, hr => by
    simp only [AV.ren, Rel] at *; obtain ⟨e, he, hx⟩ := hr; exact ⟨e, h.at' _ _ he, hx⟩
  | .sw i, _, hr => by
    simp only [AV.ren, Rel] at *; obtain ⟨e, b, c, he, hx⟩ := hr; exact ⟨e, b, c, h.at' _ _ he, hx⟩
  | .ss i lo len, _, hr => by
    simp only [AV.ren, Rel] at *; obtain ⟨e, b, c, he, hx⟩ := hr; exact ⟨e, b, c, h.at' _ _ he, hx⟩
  | .dsl r rows, _, hr => by
    simp only [AV.ren, Rel] at *; exact hr.mono h.fz
  | .dptr r row j, _, hr => by
    simp only [AV.ren, Rel] at *; obtain ⟨b, off, arr, ys, h1, h2, h3, h4⟩ := hr; exact ⟨b, off, arr, ys, h1, h.fz _ _ h2, h3, h4.mono h.fz⟩
  | .fn f fs cs, _, hr => by
    simp only [AV.ren, Rel] at *; obtain ⟨fs', cs', hx, h1, h2⟩ := hr; exact ⟨fs', cs', hx, h1.ren h, h2.ren h⟩
  | .iface t v, _, hr => by
    simp only [AV.ren, Rel] at *; obtain ⟨y, hx, h1⟩ := hr; exact ⟨y, hx, h1.ren h⟩
  | .agg cs, _, hr => by
    simp only [AV.ren, Rel] at *; obtain ⟨y, hx, h1⟩ := hr; exact ⟨y, hx, h1.ren h⟩
  | .tup cs, _, hr => by
    simp only [AV.ren, Rel] at *; obtain ⟨y, hx, h1⟩ := hr; exact ⟨y, hx, h1.ren h⟩
theorem RelL.ren (h : Rn ρ ρ' g) : ∀ {vs : List AV} {xs : List Value}, RelL ρ vs xs → RelL ρ' (AV.renL g vs) xs
  | [], _, hr => by simp only [AV.renL, RelL] at *; exact hr
  | v :: vs, _, hr => by
    simp only [AV.renL, RelL] at *
    obtain ⟨y, ys, e, h1, h2⟩ := hr
    exact ⟨y, ys, e, h1.ren h, h2.ren h⟩
end

theorem renL_get : ∀ {vs : List AV} {j : Nat}, (AV.renL g vs)[j]? = (vs[j]?).map (AV.ren g)
  | [], j => by simp [AV.renL]
  | v :: vs, 0 => by simp [AV.renL]
  | v :: vs, j + 1 => by simp [AV.renL, renL_get (vs := vs)]

theorem renT_get : ∀ {t : T AV} {j : Nat}, (renT g t).get j = (t.get j).map (AV.ren g)
  | .nil, j => by simp [renT]
  | .node l v r, 0 => by cases v <;> simp [renT, T.get]
  | .node l v r, j + 1 => by
    simp only [renT, T.get]
    cases Nat.beq (j % 2) 0
    · exact renT_get
    · exact renT_get

theorem EntL.ren (h : Rn ρ ρ' g) : ∀ {es : List Ent} {xs : List MapEntry}, EntL ρ es xs → EntL ρ' (renE g es) xs
  | [], _, hr => hr
  | _ :: _, _, hr => by
    obtain ⟨y, ys, e, h1, h2, h3, h4⟩ := hr
    exact ⟨y, ys, e, h1.ren h, h2.ren h, h3, h4.ren h⟩

theorem ORel.ren {B : Nat} {w : World} {e : At} {o : AObj} (h : Rn ρ ρ' g) (ho : ORel ρ B w e o) : ORel ρ' B w e (o.ren g) := by
  cases o with
  | cells ro es cs oty =>
    obtain ⟨h0, h1, arr, ty, fz, h2, h3, h4, h5⟩ := ho
    refine ⟨h0, h1, arr, ty, fz, h2, h3, fun j v hj => ?_, h5⟩
    rw [renL_get, Option.map_eq_some_iff] at hj
    obtain ⟨v', hv', rfl⟩ := hj
    obtain ⟨x, hx, hr⟩ := h4 j v' hv'
    exact ⟨x, hx, hr.ren h⟩
  | map es clock => obtain ⟨h0, h1, arr, h2, h3⟩ := ho; exact ⟨h0, h1, arr, h2, h3.ren h⟩
  | sIter s pos => exact ho
  | mIter m since seen stepped => obtain ⟨h00, h0, h1, em, h2, h3⟩ := ho; exact ⟨h00, h0, h1, em, h.at' _ _ h2, h3⟩
  | loop st pending fn fr n params assign body =>
    obtain ⟨h0, h1, tmps, d, f, h2, h3, h4⟩ := ho
    refine ⟨h0, h1, tmps, d, f, h2, fun t v ht => ?_, h4⟩
    rw [renT_get, Option.map_eq_some_iff] at ht
    obtain ⟨v', hv', rfl⟩ := ht
    obtain ⟨x, hx, hr⟩ := h3 t v' hv'
    exact ⟨x, hx, hr.ren h⟩
  | seq r rows oty =>
    obtain ⟨h0, h1, h2⟩ := ho
    refine ⟨h0, h1, ?_⟩
    rcases h2 with h2 | ⟨h2, arr, ty, fz, h3, h4, h6, h7⟩
    · exact .inl h2
    · exact .inr ⟨h2, arr, ty, fz, h3, h4, h6.mono h.fz, h7⟩
  | smap ka va kr vr m bs clk =>
    obtain ⟨h0, h1, h2, arr, h3, h4, hb, h5⟩ := ho
    exact ⟨h0, h1, h2, arr, h3, h4, hb, h5.mono h.fz⟩
  | smIter m since seen stepped => obtain ⟨h00, h0, h1, em, h2, h3⟩ := ho; exact ⟨h00, h0, h1, em, h.at' _ _ h2, h3⟩
  | cmIter m since pre now stepped => obtain ⟨h00, h0, h1, em, h2, h3⟩ := ho; exact ⟨h00, h0, h1, em, h.at' _ _ h2, h3⟩
end

/-- Where the names of a small state lie in a large one: those that were there; the new ones behind all. -/
def newName (js : List Nat) (next : Nat) (i : Nat) : Nat := match js[i]? with
  | some j => j
  | none => next + (i - js.length)

/-- The blocks of a small state, laid into a large one. -/
def graftGo (g : Nat → Nat) (H0' : Heap) : List Nat → T AObj → T AObj
  | [], t => t
  | i :: is, t => graftGo g H0' is (t.set (g i) (match H0'.get i with
    | none => none
    | some o => some (o.ren g)))

def graft (js : List Nat) (H H0' : Heap) : Heap :=
  { t := graftGo (newName js H.next) H0' (List.range H0'.next) H.t, next := H.next + (H0'.next - js.length) }

theorem graftGo_get {g : Nat → Nat} (H0' : Heap) : ∀ (is : List Nat) (t : T AObj), is.Nodup → (∀ i ∈ is, ∀ j ∈ is, g i = g j → i = j) → ∀ k,
    (∀ i ∈ is, g i = k → (graftGo g H0' is t).get k = (H0'.get i).map (AObj.ren g)) ∧ ((∀ i ∈ is, g i ≠ k) → (graftGo g H0' is t).get k = t.get k)
  | [], t, _, _, k => ⟨fun i hi => (by cases hi), fun _ => rfl⟩
  | i :: is, t, hnd, hinj, k => by
    rw [List.nodup_cons] at hnd
    obtain ⟨h1, h2⟩ := graftGo_get H0' is (t.set (g i) (match H0'.get i with
      | none => none
      | some o => some (o.ren g))) hnd.2 (fun a ha b hb => hinj a (List.mem_cons_of_mem _ ha) b (List.mem_cons_of_mem _ hb)) k
    refine ⟨fun j hj hjk => ?_, fun hall => ?_⟩
    · rcases List.mem_cons.1 hj with rfl | hj
      · have : ∀ a ∈ is, g a ≠ k := fun a ha hak => by
          have := hinj a (List.mem_cons_of_mem _ ha) j (List.mem_cons_self ..) (hak.trans hjk.symm)
          subst this; exact hnd.1 ha
        simp only [graftGo]
        rw [h2 this, T.get_set, if_pos hjk.symm]
        cases H0'.get j <;> rfl
      · simp only [graftGo]; exact h1 j hj hjk
    · simp only [graftGo]
      rw [h2 fun a ha => hall a (List.mem_cons_of_mem _ ha), T.get_set, if_neg (Ne.symm (hall i (List.mem_cons_self ..)))]

/-- The names of a small state. -/
def sameGo : Nat → List Nat → List (Nat × Src)
  | _, [] => []
  | i, j :: js => (i, .same j) :: sameGo (i + 1) js
def sameRen (i : Nat) (js : List Nat) : Ren := ⟨0, sameGo i js⟩

theorem lkL_sameGo : ∀ {js : List Nat} {i0 i : Nat}, lkL (sameGo i0 js) i = if i0 ≤ i then (js[i - i0]?).map Src.same else none
  | [], i0, i => by simp [sameGo, lkL]
  | j :: js, i0, i => by
    simp only [sameGo, lkL]
    by_cases h : i0 = i
    · subst h; simp [Nat.beq_refl]
    · have hb : Nat.beq i0 i = false := by
        cases hb : Nat.beq i0 i with
        | false => rfl
        | true => exact absurd (Nat.eq_of_beq_eq_true hb) h
      rw [hb, cond_false, lkL_sameGo]
      by_cases h2 : i0 ≤ i
      · rw [if_pos (by omega), if_pos h2, show i - i0 = (i - (i0 + 1)) + 1 by omega]; simp
      · rw [if_neg (by omega), if_neg h2]

theorem lk_sameRen {js : List Nat} {i0 i : Nat} : lk (sameRen i0 js) i = if i0 ≤ i then (js[i - i0]?).map Src.same else none := by
  rw [← lkL_sameGo]
  unfold lk sameRen
  simp only
  rw [show Nat.blt i 0 = false from rfl]
  rfl

def allLive (H0 : Heap) : Bool := (List.range H0.next).all fun i => (H0.get i).isSome

section
variable {P : Program} {B : Nat} {f : FuncId} {args args0 : List AV} {H H0 : Heap} {Q0 : KF}

theorem WF.frame (h : WF P B f args0 H0 Q0) (js : List Nat) {ps qs : List Prop} (hm : mS 0 (sameRen 0 js) [] H0 .nil H = some ps) (hp : AllP ps) (ha : mVL (sameRen 0 js) args0 args = some qs) (hq : AllP qs)
    (hn : H0.next = js.length) (hl : allLive H0 = true) (hnd : js.Nodup) :
    WF P B f args H fun v H' => ∃ v0 H0', Q0 v0 H0' ∧ v = v0.ren (newName js H.next) ∧ H' = graft js H H0' := by
  intro ρ w xs hr hx
  obtain ⟨ρ0, hr0, _, hek, good, hρ0, hobj⟩ := mS_full hm hp B ρ w #[] (Nat.zero_le _) hr (fun t v ht => by cases ht)
  have hx0 : RelL ρ0 args0 xs.toList := mVL_sound good ha hq hx
  refine (h ρ0 w xs hr0 hx0).mono ?_
  rintro e w' ⟨v0, x, H0', ρ1, rfl, hq0, he, hr1, hrel⟩
  have hlen0 : ρ0.ats.length = js.length := by rw [← hr0.next, hn]
  have hat0 : ∀ i j, js[i]? = some j → ρ0.ats[i]? = ρ.ats[j]? := fun i j hj => by
    have hi : i < js.length := (List.getElem?_eq_some_iff.1 hj).1
    have hl2 : lk (sameRen 0 js) i = some (.same j) := by rw [lk_sameRen, if_pos (Nat.zero_le _), Nat.sub_zero, hj]; rfl
    obtain ⟨o, ho⟩ : ∃ o, H0.get i = some o := by
      have := List.all_eq_true.1 hl i (List.mem_range.2 (by omega))
      exact Option.isSome_iff_exists.1 this
    obtain ⟨e, he1, _⟩ := hobj i o ho
    have hlive : ∃ e', ρ.ats[j]? = some e' := by
      cases hh : ρ.ats[j]? with
      | some e' => exact ⟨e', rfl⟩
      | none =>
        exfalso
        obtain ⟨e1, he1', hnb⟩ := hobj i o ho
        rw [hρ0] at he1'
        simp only [renEnv, List.getElem?_map, List.getElem?_range (show i < H0.next by omega), Option.map_some, Option.some.injEq, hl2, Option.bind_some, Src.atE, hh, Option.getD_none] at he1'
        -- an entry that is not there
        obtain ⟨e2, h2, hO⟩ := hr0.obj i o ho
        unfold mS at hm
        cases hb : (rootsOk (sameRen 0 js) 0 && Nat.ble 0 H0.next && Nat.ble 0 H.next && distinct (sameRen 0 js) && keysOk (sameRen 0 js) H0.next && subsOk H0 (sameRen 0 js) && T.allK (fun i => Nat.blt i H0.next) H0.t) with
        | false => rw [hb] at hm; cases hm
        | true =>
          rw [hb, cond_true] at hm
          obtain ⟨p1, q1, _, h4, _, hq1⟩ := andP_inv hm hp
          obtain ⟨s, ps', k1, k2, k3⟩ := mOs_sound h4 hq1 i (List.mem_range.2 (by omega)) o ho
          rw [hl2] at k1; cases k1
          obtain ⟨e3, k4, _⟩ := mO_sound hr good k2 k3
          simp only [Src.atE] at k4
          rw [hh] at k4; cases k4
    obtain ⟨e', he'⟩ := hlive
    rw [he']
    exact good.at' i _ e' hl2 he'
  let g := newName js H.next
  let ρ' : Env := { ats := ρ.ats ++ ρ1.ats.drop js.length, fz := ρ1.fz }
  have hpre := he.pre.ats
  have hle1 : js.length ≤ ρ1.ats.length := by rw [← hlen0]; exact hpre.length_le
  have hold : ∀ i, i < js.length → ρ1.ats[i]? = ρ0.ats[i]? := fun i hi => by
    obtain ⟨e, he'⟩ : ∃ e, ρ0.ats[i]? = some e := ⟨_, List.getElem?_eq_getElem (by omega)⟩
    rw [he', pre_get hpre he']
  have hg : ∀ i, i < ρ1.ats.length → ρ'.ats[g i]? = ρ1.ats[i]? := fun i hi => by
    by_cases hlt : i < js.length
    · obtain ⟨j, hj⟩ : ∃ j, js[i]? = some j := ⟨_, List.getElem?_eq_getElem hlt⟩
      rw [hold i hlt, hat0 i j hj]
      have : g i = j := by simp only [g, newName, hj]
      rw [this]
      obtain ⟨e, he'⟩ : ∃ e, ρ0.ats[i]? = some e := ⟨_, List.getElem?_eq_getElem (by omega)⟩
      have hj' := hat0 i j hj
      rw [he'] at hj'
      have hjl : j < ρ.ats.length := (List.getElem?_eq_some_iff.1 hj'.symm).1
      exact List.getElem?_append_left hjl
    · have : g i = ρ.ats.length + (i - js.length) := by
        simp only [g, newName, List.getElem?_eq_none (show js.length ≤ i by omega), hr.next]
      rw [this, List.getElem?_append_right (by omega), Nat.add_sub_cancel_left, List.getElem?_drop]
      congr 1; omega
  have hrn : Rn ρ1 ρ' g := ⟨fun i e hi => by
    rw [hg i (List.getElem?_eq_some_iff.1 hi).1]; exact hi, fun b c hb => hb⟩
  have hle : ρ.le ρ' := ⟨List.prefix_append _ _, fun b c hb => he.pre.fz b c (hek.fz b c hb)⟩
  have hjl : ∀ i j, js[i]? = some j → j < H.next := fun i j hj => by
    have hi : i < js.length := (List.getElem?_eq_some_iff.1 hj).1
    obtain ⟨e, he'⟩ : ∃ e, ρ0.ats[i]? = some e := ⟨_, List.getElem?_eq_getElem (by omega)⟩
    have := hat0 i j hj
    rw [he'] at this
    rw [hr.next]; exact (List.getElem?_eq_some_iff.1 this.symm).1
  have hinj : ∀ i i', g i = g i' → i = i' := fun i i' hgg => by
    simp only [g, newName] at hgg
    cases h1 : js[i]? with
    | none =>
      cases h2 : js[i']? with
      | none =>
        rw [h1, h2] at hgg
        have a1 := List.getElem?_eq_none_iff.1 h1
        have a2 := List.getElem?_eq_none_iff.1 h2
        simp only at hgg; omega
      | some j' => rw [h1, h2] at hgg; have := hjl i' j' h2; simp only at hgg; omega
    | some j =>
      cases h2 : js[i']? with
      | none => rw [h1, h2] at hgg; have := hjl i j h1; simp only at hgg; omega
      | some j' =>
        rw [h1, h2] at hgg
        simp only at hgg
        subst hgg
        have hi : i < js.length := (List.getElem?_eq_some_iff.1 h1).1
        exact (List.getElem?_inj hi hnd).1 (h1.trans h2.symm)
  have hget : ∀ k, (∀ i, i < H0'.next → g i = k → (graft js H H0').get k = (H0'.get i).map (AObj.ren g)) ∧ ((∀ i, i < H0'.next → g i ≠ k) → (graft js H H0').get k = H.get k) := fun k => by
    obtain ⟨g1, g2⟩ := graftGo_get (g := g) H0' (List.range H0'.next) H.t List.nodup_range (fun i _ j _ hij => hinj i j hij) k
    exact ⟨fun i hi hik => g1 i (List.mem_range.2 hi) hik, fun hall => g2 fun i hi => hall i (List.mem_range.1 hi)⟩
  have hnx1 := hr1.next
  have hblk' : ∀ b, ρ'.blk b → ρ.blk b ∨ ρ1.blk b := fun b ⟨e, hm, hnb, hbb⟩ => by
    rcases List.mem_append.1 hm with hm | hm
    · exact .inl ⟨e, hm, hnb, hbb⟩
    · exact .inr ⟨e, List.mem_of_mem_drop hm, hnb, hbb⟩
  have hblk0 : ∀ b, ρ0.blk b → ρ.blk b := fun b hb => (hek.new b hb).elim id fun hge => by
    have := hr0.bnd b hb; omega
  -- a block of the large state that the call does not know
  have hfar : ∀ (k : Nat) (o : AObj) (e : At), H.get k = some o → (∀ i, i < js.length → js[i]? ≠ some k) → ρ.ats[k]? = some e → e.nb = false → e.b < B ∨ ¬ ρ0.blk e.b := fun k o e hk hno hek' hnb => by
    by_cases hb : ρ0.blk e.b
    · obtain ⟨e0, hm0, hnb0, hbb0⟩ := hb
      obtain ⟨i, hi⟩ := List.getElem?_of_mem hm0
      have hil : i < js.length := by rw [← hlen0]; exact (List.getElem?_eq_some_iff.1 hi).1
      obtain ⟨j, hj⟩ : ∃ j, js[i]? = some j := ⟨_, List.getElem?_eq_getElem hil⟩
      obtain ⟨o0, ho0⟩ : ∃ o, H0.get i = some o := by
        have := List.all_eq_true.1 hl i (List.mem_range.2 (by omega))
        exact Option.isSome_iff_exists.1 this
      obtain ⟨e1, he1, hsrc⟩ := hobj i o0 ho0
      rw [hi] at he1; cases he1
      obtain ⟨s, j', o', e', m1, m2, m3, m4, m5, m6⟩ := hsrc hnb0
      have hjj : j' = j := by
        have hl2 : lk (sameRen 0 js) i = some (.same j) := by rw [lk_sameRen, if_pos (Nat.zero_le _), Nat.sub_zero, hj]; rfl
        rw [hl2] at m1; cases m1
        simp only [Src.id?, Option.some.injEq] at m2
        exact m2.symm
      subst hjj
      refine .inl (hr.inj k j' o o' e e' hk m3 hek' m4 hnb m6 (by rw [m5, hbb0]) fun hkj => ?_)
      subst hkj; exact hno i hil hj
    · exact .inr hb
  have hsame : ∀ (k : Nat) (o : AObj) (e : At), H.get k = some o → (∀ i, i < js.length → js[i]? ≠ some k) → ρ.ats[k]? = some e → e.nb = false → w'.heap[e.b]? = w.heap[e.b]? := fun k o e hk hno hek' hnb => by
    rcases hfar k o e hk hno hek' hnb with hlt | hnk
    · exact he.below _ hlt
    · exact he.other _ (hr.bnd _ (Env.blk_of hek' hnb)) hnk
  have himg : ∀ (k : Nat) (o : AObj), (graft js H H0').get k = some o → (∃ i o0, i < H0'.next ∧ g i = k ∧ H0'.get i = some o0 ∧ o = o0.ren g) ∨ (H.get k = some o ∧ (∀ i, i < H0'.next → g i ≠ k)) := fun k o hk => by
    by_cases hex : ∃ i, i < H0'.next ∧ g i = k
    · obtain ⟨i, hi, hik⟩ := hex
      rw [(hget k).1 i hi hik, Option.map_eq_some_iff] at hk
      obtain ⟨o0, h0, rfl⟩ := hk
      exact .inl ⟨i, o0, hi, hik, h0, rfl⟩
    · have hall : ∀ i, i < H0'.next → g i ≠ k := fun i hi hik => hex ⟨i, hi, hik⟩
      rw [(hget k).2 hall] at hk
      exact .inr ⟨hk, hall⟩
  have hno : ∀ (k : Nat), (∀ i, i < H0'.next → g i ≠ k) → ∀ i, i < js.length → js[i]? ≠ some k := fun k hall i hi hik => by
    refine hall i (by omega) ?_
    simp only [g, newName, hik]
  have hold' : ∀ (k : Nat) (o : AObj) (e : At), H.get k = some o → ρ'.ats[k]? = some e → ρ.ats[k]? = some e := fun k o e hk he' => by
    have : k < ρ.ats.length := by rw [← hr.next]; exact hr.old hk
    rwa [List.getElem?_append_left this] at he'
  refine ⟨v0.ren g, x, graft js H H0', ρ', rfl, ⟨v0, H0', hq0, rfl, rfl⟩, ?_, ?_, hrel.ren hrn⟩
  · refine ⟨hle, he.os, he.tape, he.output, he.size, he.below, fun k hk hnk => he.other k hk fun hb => hnk (hblk0 k hb), fun b hb => ?_, fun b c hb => ?_⟩
    · rcases hblk' b hb with hb | hb
      · exact .inl hb
      · rcases he.new b hb with hb | hge
        · exact .inl (hblk0 b hb)
        · exact .inr hge
    · rcases he.fzn b c hb with hb | hb | hge
      · rcases hek.fzn b c hb with hb | hb | hge
        · exact .inl hb
        · exact .inr (.inl hb)
        · exact .inr (.inr hge)
      · exact .inr (.inl (hblk0 b hb))
      · exact .inr (.inr hge)
  · refine ⟨?_, hr1.base, fun b hb => ?_, fun k o hk => ?_, fun k k' o o' e e' hk hk' he1 he2 hn1 hn2 hbb hne => ?_, hr1.fz, fun k o e c hk he1 hn1 hc => ?_⟩
    · simp only [graft, ρ', List.length_append, List.length_drop, hr.next, hnx1]
    · rcases hblk' b hb with hb | hb
      · have := hr.bnd b hb; have := he.size; omega
      · exact hr1.bnd b hb
    · rcases himg k o hk with ⟨i, o0, hi, rfl, h0, rfl⟩ | ⟨hk0, hall⟩
      · obtain ⟨e, he1, hO⟩ := hr1.obj i o0 h0
        exact ⟨e, by rw [hg i (by omega)]; exact he1, hO.ren hrn⟩
      · obtain ⟨e, he1, hO⟩ := hr.obj k o hk0
        exact ⟨e, pre_get hle.ats he1, hO.mono hle fun hnb => hsame k o e hk0 (hno k hall) he1 hnb⟩
    · have mixed : ∀ (k k' : Nat) (o o' : AObj) (e e' : At) (i : Nat) (o0 : AObj), i < H0'.next → g i = k → H0'.get i = some o0 → H.get k' = some o' → (∀ i, i < H0'.next → g i ≠ k') → ρ'.ats[k]? = some e → ρ'.ats[k']? = some e' → e.nb = false → e'.nb = false → e.b = e'.b → e.b < B := by
        intro k k' o o' e e' i o0 hi hik h0 hk' hall he1 he2 hn1 hn2 hbb
        rw [← hik, hg i (by omega)] at he1
        have he2' := hold' k' o' e' hk' he2
        rcases hfar k' o' e' hk' (hno k' hall) he2' hn2 with hlt | hnk
        · omega
        · rcases he.new e.b (Env.blk_of he1 hn1) with hb | hge
          · rw [hbb] at hb; exact absurd hb hnk
          · have := hr.bnd _ (Env.blk_of he2' hn2); omega
      rcases himg k o hk with ⟨i, o0, hi, hik, h0, rfl⟩ | ⟨hk0, hall⟩ <;> rcases himg k' o' hk' with ⟨i', o0', hi', hik', h0', rfl⟩ | ⟨hk0', hall'⟩
      · rw [← hik, hg i (by omega)] at he1
        rw [← hik', hg i' (by omega)] at he2
        exact hr1.inj i i' o0 o0' e e' h0 h0' he1 he2 hn1 hn2 hbb fun hii => hne (by rw [← hik, ← hik', hii])
      · exact mixed k k' (o0.ren g) o' e e' i o0 hi hik h0 hk0' hall' he1 he2 hn1 hn2 hbb
      · have := mixed k' k (o0'.ren g) o e' e i' o0' hi' hik' h0' hk0 hall he2 he1 hn2 hn1 hbb.symm
        omega
      · exact hr.inj k k' o o' e e' hk0 hk0' (hold' k o e hk0 he1) (hold' k' o' e' hk0' he2) hn1 hn2 hbb hne
    · rcases himg k o hk with ⟨i, o0, hi, hik, h0, rfl⟩ | ⟨hk0, hall⟩
      · rw [← hik, hg i (by omega)] at he1
        exact hr1.fzo i o0 e c h0 he1 hn1 hc
      · have he1' := hold' k o e hk0 he1
        rcases he.fzn _ _ hc with hb | hb | hge
        · have hfz0 : ρ0.fz = ρ.fz := by rw [hρ0]; rfl
          rw [hfz0] at hb
          exact hr.fzo k o e c hk0 he1' hn1 hb
        · rcases hfar k o e hk0 (hno k hall) he1' hn1 with hlt | hnk
          · exact hlt
          · exact absurd hb hnk
        · have := hr.bnd _ (Env.blk_of he1' hn1); omega
end
end Go.AM
set_option linter.unusedSimpArgs false
set_option linter.unusedVariables false
namespace Go.AM
open Go.RowKit

mutual
/-- It names no block of a run. -/
def AV.closed : AV → Bool
  | .ptr _ _ => false
  | .slc _ _ _ _ _ => false
  | .map _ => false
  | .yld _ => false
  | .eptr _ _ _ => false
  | .sw _ => false
  | .ss _ _ _ => false
  | .fn _ fs cs => closedL fs && closedL cs
  | .iface _ v => v.closed
  | .agg cs => closedL cs
  | .tup cs => closedL cs
  | _ => true
def closedL : List AV → Bool
  | [] => true
  | v :: vs => v.closed && closedL vs
end

mutual
theorem Rel.closed {ρ ρ' : Env} (h : FzLe ρ.fz ρ'.fz) : ∀ {v : AV} {x : Value}, v.closed = true → Rel ρ v x → Rel ρ' v x
  | .sI _ _, _, _, hr | .sB _, _, _, hr | .sS _, _, _, hr | .bool _, _, _, hr | .int _ _, _, _, hr | .str _, _, _, hr | .nilPtr, _, _, hr | .nilSlc, _, _, hr | .nilMap, _, _, hr | .nilFn, _, _, hr | .nilIface, _, _, hr | .emp, _, _, hr => by
    simp only [Rel] at *; exact hr
  | .ptr _ _, _, hc, hr | .slc _ _ _ _ _, _, hc, hr | .map _, _, hc, hr | .yld _, _, hc, hr | .eptr _ _ _, _, hc, hr | .sw _, _, hc, hr | .ss _ _ _, _, hc, hr => by
    simp [AV.closed] at hc
  | .dsl r rows, _, _, hr => by
    simp only [Rel] at *; exact hr.mono h
  | .dptr r row j, _, _, hr => by
    simp only [Rel] at *; obtain ⟨b, off, arr, ys, h1, h2, h3, h4⟩ := hr; exact ⟨b, off, arr, ys, h1, h _ _ h2, h3, h4.mono h⟩
  | .fn f fs cs, _, hc, hr => by
    simp only [AV.closed, Bool.and_eq_true] at hc
    simp only [Rel] at *; obtain ⟨fs', cs', hx, h1, h2⟩ := hr; exact ⟨fs', cs', hx, RelL.closed h hc.1 h1, RelL.closed h hc.2 h2⟩
  | .iface t v, _, hc, hr => by
    simp only [AV.closed] at hc
    simp only [Rel] at *; obtain ⟨y, hx, h1⟩ := hr; exact ⟨y, hx, Rel.closed h hc h1⟩
  | .agg cs, _, hc, hr => by
    simp only [AV.closed] at hc
    simp only [Rel] at *; obtain ⟨y, hx, h1⟩ := hr; exact ⟨y, hx, RelL.closed h hc h1⟩
  | .tup cs, _, hc, hr => by
    simp only [AV.closed] at hc
    simp only [Rel] at *; obtain ⟨y, hx, h1⟩ := hr; exact ⟨y, hx, RelL.closed h hc h1⟩
theorem RelL.closed {ρ ρ' : Env} (h : FzLe ρ.fz ρ'.fz) : ∀ {vs : List AV} {xs : List Value}, closedL vs = true → RelL ρ vs xs → RelL ρ' vs xs
  | [], _, _, hr => by simp only [RelL] at *; exact hr
  | v :: vs, _, hc, hr => by
    simp only [closedL, Bool.and_eq_true] at hc
    simp only [RelL] at *
    obtain ⟨y, ys, e, h1, h2⟩ := hr
    exact ⟨y, ys, e, Rel.closed h hc.1 h1, RelL.closed h hc.2 h2⟩
end

def H0 : Heap := { t := .nil, next := 0 }

section
variable {P : Program} {B : Nat} {f : FuncId} {args : List AV} {H : Heap}

theorem HR.bare {ρ : Env} {w : World} (h : HR B ρ H w) : HR B ⟨[], ρ.fz⟩ H0 w where
  next := rfl
  base := h.base
  bnd := fun b hb => by obtain ⟨e, he, _⟩ := hb; cases he
  obj := fun i o hi => by simp [H0, Heap.get] at hi
  inj := fun i j o o' e e' hi => by simp [H0, Heap.get] at hi
  fz := h.fz
  fzo := fun i o e c hi => by simp [H0, Heap.get] at hi

/-- What was proved at the empty heap holds at every heap. -/
theorem WF.pure {Q : AV → Heap → Prop} {Q' : AV → Prop} (h : WF P B f args H0 Q) (ha : closedL args = true) (hq : ∀ v H', Q v H' → Q' v ∧ v.closed = true) :
    WF P B f args H fun v H' => Q' v ∧ H' = H := by
  intro ρ w xs hr hx
  have hx0 : RelL ⟨[], ρ.fz⟩ args xs.toList := RelL.closed (ρ := ρ) (ρ' := ⟨[], ρ.fz⟩) (fun _ _ h => h) ha hx
  refine (h ⟨[], ρ.fz⟩ w xs hr.bare hx0).mono ?_
  rintro e w' ⟨v, x, H1, ρ1, he, hQ, hE, hR, hv⟩
  obtain ⟨hq1, hc⟩ := hq v H1 hQ
  have hno : ∀ k, ¬ (Env.mk [] ρ.fz).blk k := fun k hk => by obtain ⟨e, he, _⟩ := hk; cases he
  have same : ∀ k, k < w.heap.size → w'.heap[k]? = w.heap[k]? := fun k hk => hE.other k hk (hno k)
  have hobj : ∀ b, ρ.blk b → w'.heap[b]? = w.heap[b]? := fun b hb => same b (hr.bnd b hb)
  have hle : ρ.le ⟨ρ.ats, ρ1.fz⟩ := ⟨List.prefix_refl _, hE.pre.fz⟩
  refine ⟨v, x, H, ⟨ρ.ats, ρ1.fz⟩, he, ⟨hq1, rfl⟩, ⟨hle, hE.os, hE.tape, hE.output, hE.size, hE.below, fun k hk _ => same k hk, fun _ h => .inl h, fun b c hb => ?_⟩, ?_, ?_⟩
  · rcases hE.fzn b c hb with h | h | h
    · exact .inl h
    · exact absurd h (hno b)
    · exact .inr (.inr h)
  · exact {
      next := hr.next
      base := Nat.le_trans hr.base hE.size
      bnd := fun b hb => Nat.lt_of_lt_of_le (hr.bnd b hb) hE.size
      obj := fun i o hi => by
        obtain ⟨e, he, ho⟩ := hr.obj i o hi
        exact ⟨e, he, ho.mono hle fun hn => hobj _ ⟨e, List.mem_of_getElem? he, hn, rfl⟩⟩
      inj := hr.inj
      fz := hR.fz
      fzo := fun i o e c hi he hn hb => by
        rcases hE.fzn e.b c hb with h | h | h
        · exact hr.fzo i o e c hi he hn h
        · exact absurd h (hno _)
        · exact absurd (hr.bnd e.b ⟨e, List.mem_of_getElem? he, hn, rfl⟩) (Nat.not_lt.2 h) }
  · exact Rel.closed (ρ := ρ1) (ρ' := ⟨ρ.ats, ρ1.fz⟩) (fun _ _ h => h) hc hv

/-- What is known of the arguments' terms. -/
theorem WF.rng {Q : KF} (h : AllP (rngL args) → WF P B f args H Q) : WF P B f args H Q := fun ρ w xs hr hx => h (rngL_sound hx) ρ w xs hr hx

/-- A wrap, so that nothing is unfolded. -/
structure Owe (p : Prop) : Prop where
  h : p

theorem Owe.of {p q : Prop} (e : p = q) (h : p) : Owe q := ⟨e ▸ h⟩

theorem WF.owe {S : SumP} {L : LTab} {k : Nat} {Q : KF} (h : Owe (vTop P S L k f args H Q)) (hm : P.follows .mixedOrders = true) (hS : SumPOk P B S) : WF P B f args H Q :=
  WF.of_vc hm hS h.h

/-- The same value, told otherwise. -/
theorem WF.reval {Q Q' : AV → Heap → Prop} (h : WF P B f args H Q) (hq : ∀ v H' (ρ : Env) x, Q v H' → Rel ρ v x → ∃ v', Q' v' H' ∧ Rel ρ v' x) : WF P B f args H Q' :=
  fun ρ w xs h1 h2 => (h ρ w xs h1 h2).mono fun e w' ⟨v, x, H', ρ', g1, g2, g3, g4, g5⟩ => by
    obtain ⟨v', k1, k2⟩ := hq v H' ρ' x g2 g5
    exact ⟨v', x, H', ρ', g1, k1, g3, g4, k2⟩

/-- What a call hands back, if nothing is owed. -/
noncomputable def dRes (P : Program) (S : SumP) (k : Nat) (f : FuncId) (args : List AV) (H : Heap) : Option AV := match dF P S (dC P S k) f args H with
  | some (none, v, _) => some v
  | _ => none

theorem WF.of_dRes {S : SumP} {k : Nat} {v : AV} (h : dRes P S k f args H = some v) (hm : P.follows .mixedOrders = true) (hS : SumPOk P B S) : WF P B f args H fun v' _ => v' = v := by
  unfold dRes at h
  split at h
  · rename_i v' H' hd
    cases h
    exact ((dF_sound hS (dC_sound hm hS k) hd).w trivial).mono fun _ _ e => e.1
  · cases h

def isB (v : AV) (b : Bool) : Prop := match v with
  | .bool c => c = b
  | .sB c => c = b
  | _ => False

theorem isB_rel {v : AV} {b : Bool} (h : isB v b) {ρ : Env} {x : Value} (hr : Rel ρ v x) : Rel ρ (.sB b) x := by
  unfold isB at h
  split at h
  · simp only [Rel] at hr ⊢; rw [hr, h]
  · simp only [Rel] at hr ⊢; rw [hr, h]
  · exact h.elim

theorem isB_closed {v : AV} {b : Bool} (h : isB v b) : v.closed = true := by
  unfold isB at h
  split at h
  · rfl
  · rfl
  · exact h.elim

/-- A call with plain arguments that answers yes or no. -/
theorem WF.pureB {b : Bool} (h : WF P B f args H0 fun v _ => isB v b) (ha : closedL args = true) : WF P B f args H fun v H' => v = .sB b ∧ H' = H :=
  (h.pure (Q' := fun v => isB v b) ha fun v H' hv => ⟨hv, isB_closed hv⟩).reval fun v H' ρ x hv hr => ⟨.sB b, ⟨rfl, hv.2⟩, isB_rel hv.1 hr⟩

end
end Go.AM
set_option linter.unusedSimpArgs false
set_option linter.unusedVariables false
namespace Go.AM
open Go.ChangeShapes Go.WideShapes Go.ChangeAt Go.RowKit

/-- What lies in the blocks at the beginning. -/
def fz0 (W : World) : Nat → Option (Array Value) := fun b => match W.heap[b]? with
  | some (.cells c _ _) => some c
  | _ => none

def ρ0 (W : World) : Env := ⟨[], fz0 W⟩

theorem fz0_inv {W : World} {b : Nat} {c : Array Value} (h : fz0 W b = some c) : ∃ ty f, W.heap[b]? = some (.cells c ty f) := by
  unfold fz0 at h
  split at h
  · rename_i c' ty f hb; cases h; exact ⟨ty, f, hb⟩
  · cases h

theorem fz0_of {W : World} {b : Nat} {c : Array Value} {ty : TypeId} {f : Nat × Nat} (h : W.heap[b]? = some (.cells c ty f)) : fz0 W b = some c := by
  unfold fz0; rw [h]

theorem HR.start (W : World) : HR W.heap.size (ρ0 W) H0 W where
  next := rfl
  base := Nat.le_refl _
  bnd := fun b hb => by obtain ⟨e, he, _⟩ := hb; cases he
  obj := fun i o hi => by simp [H0, Heap.get] at hi
  inj := fun i j o o' e e' hi => by simp [H0, Heap.get] at hi
  fz := fun b c hb => by obtain ⟨ty, f, h⟩ := fz0_inv hb; exact ⟨c, ty, f, h, fun _ _ h => h⟩
  fzo := fun i o e c hi => by simp [H0, Heap.get] at hi

theorem Ext.toBelow {B : Nat} {ρ ρ' : Env} {w w' : World} (h : Ext B ρ w ρ' w') : Below B w w' := ⟨h.os, h.tape, h.output, h.size, h.below⟩

theorem law_calls {P : Program} {f : FuncId} {avs : List AV} {args : Array Value} {W : World} (h : WF P W.heap.size f avs H0 fun v _ => isB v true) (hr : RelL (ρ0 W) avs args.toList) :
    Calls P f args W fun e W' => e = .returned (.bool true) ∧ Below W.heap.size W W' :=
  (h (ρ0 W) W args (HR.start W) hr).mono fun e W' ⟨v, x, H', ρ', he, hv, hx, _, hrel⟩ => by
    have := isB_rel hv hrel
    simp only [Rel] at this
    subst this
    exact ⟨he, hx.toBelow⟩

section
variable {H : Type} {enc : TypeId × Value → H} {P : Program}

theorem trodAll_below (hl : laidOutB P = true) {W W' : World} (hb : Below W.heap.size W W') : ∀ {ts : List TypeId} {vs : List Value} {ds : List (DataW H)} {ps : List MemPlace},
    (∀ t ∈ ts, P.readableRec t = true ∧ t < P.types.size) → DataW.TrodAll enc P W 0 (fun _ => true) true ts vs ds ps → (∀ x ∈ ps, x.block < W.heap.size) →
    DataW.TrodAll enc P W' 0 (fun b => decide (b < W.heap.size)) true ts vs ds ps
  | [], vs, ds, ps, _, h, _ => by
    cases vs <;> cases ds <;> simp only [DataW.TrodAll] at h ⊢ <;> exact h
  | t :: ts, vs, ds, ps, hts, h, hlt => by
    cases vs with
    | nil => simp [DataW.TrodAll] at h
    | cons v vs =>
      cases ds with
      | nil => simp [DataW.TrodAll] at h
      | cons d ds =>
        simp only [DataW.TrodAll] at h ⊢
        obtain ⟨p, q, h1, h2, rfl⟩ := h
        obtain ⟨k1, k2⟩ := hts t (List.mem_cons_self ..)
        exact ⟨p, q, Below.trod hl k1 k2 h1 hb fun x hx => hlt x (List.mem_append_left _ hx), trodAll_below hl hb (fun t ht => hts t (List.mem_cons_of_mem _ ht)) h2 fun x hx => hlt x (List.mem_append_right _ hx), rfl⟩

/-- The law returns true; the arguments read as they read. -/
theorem law_post {f : Func} {s : ChangeSpec} {apart fresh handsOn : Bool} {W W' : World} {args : Array Value} {ds gs : List (DataW H)} {before : List MemPlace} {tb : TypeId}
    (hl : laidOutB P = true) (hts : ∀ t ∈ f.params.toList, P.readableRec t = true ∧ t < P.types.size) (hW : DataW.Whole enc P f.params.toList s.vars apart W args.toList ds gs before) (hvars : s.vars = [])
    (hres : f.resultTypes = #[tb]) (htb : P.underlying tb = some .bool) (hfn : s.fn H ds = { results := [.lit (.bool true)], args := ds }) (hB : Below W.heap.size W W') :
    s.post enc P f apart fresh handsOn false W args (.bool true) W' := by
  have hW' := hW
  obtain ⟨p, q, hA, hV, rfl, _, _⟩ := hW'
  rw [hvars] at hV
  obtain ⟨rfl, rfl⟩ := trodVars_none hV
  have hlt : ∀ x ∈ p, x.block < W.heap.size := fun x hx => hW.lt x (List.mem_append_left _ hx)
  refine ⟨ds, [], _, [], p, [], hW, ?_, ?_, ?_, hB.frame _, fun h => by cases h⟩
  · rw [List.append_nil, hfn, hres]
    exact trodAll_mk1 (shut_bool htb true)
  · rw [List.append_nil, hfn]
    exact trodAll_below hl hB hts hA hlt
  · rw [List.append_nil, hfn, hvars]
    rfl

theorem rel_bytes (ρ : Env) (s : ByteArray) (h : s.size ≤ maxI) : Rel ρ (.sS s.data.toList) (.string s) := by
  simp only [Rel]
  exact ⟨trivial, h⟩

/-! ### Arguments of plain cells -/
inductive Shp where
  | num (k : IntKind)
  | txt
  | boo

def Shp.Is : Shp → AV → Prop
  | .num k, a => ∃ n, k.has n ∧ a = .sI k n
  | .txt, a => ∃ t, t.length ≤ maxI ∧ a = .sS t
  | .boo, a => ∃ t, a = .sB t

def IsL : List Shp → List AV → Prop
  | [], as => as = []
  | s :: ss, as => ∃ a as', as = a :: as' ∧ s.Is a ∧ IsL ss as'

def shp (P : Program) (u : TypeId) : Option Shp := match P.underlying u with
  | some (.int k) => some (.num k)
  | some .string => some .txt
  | some .bool => some .boo
  | _ => none

theorem str_le {s : ByteArray} (h : (s.size : Int) ≤ IntKind.i64.max) : s.size ≤ maxI := by
  have : IntKind.i64.max = 9223372036854775807 := by decide
  rw [this] at h; simp only [maxI]; omega

theorem cell_sym {ρ : Env} {w : World} {r : Reach} {base : Nat} {u : TypeId} {v : Value} {s : Shp} (h : Cell.okWide P w r base u v) (hs : shp P u = some s) : ∃ a, s.Is a ∧ Rel ρ a v := by
  unfold shp at hs
  unfold Cell.okWide at h
  unfold Cell.ok at h
  split at hs
  · rename_i k hu
    cases hs
    rw [hu] at h
    cases v <;> simp only at h
    obtain ⟨rfl, hn⟩ := h
    exact ⟨.sI _ _, ⟨_, hn, rfl⟩, by simp only [Rel]; exact ⟨trivial, hn⟩⟩
  · rename_i hu
    cases hs
    rw [hu] at h
    cases v <;> simp only at h
    have hlen := str_le h
    exact ⟨_, ⟨_, hlen, rfl⟩, rel_bytes ρ _ hlen⟩
  · rename_i hu
    cases hs
    rw [hu] at h
    cases v <;> simp only at h
    rename_i b
    exact ⟨.sB b, ⟨_, rfl⟩, by simp only [Rel]⟩
  · cases hs

theorem cells_sym {ρ : Env} {w : World} {r : Reach} {base : Nat} : ∀ {ts : List TypeId} {vs : List Value} {ss : List Shp}, vs.length = ts.length → (∀ (i : Nat) (v : Value), vs[i]? = some v → ∃ u, ts[i]? = some u ∧ Cell.okWide P w r base u v) → ts.mapM (shp P) = some ss →
    ∃ as, IsL ss as ∧ RelL ρ as vs
  | [], [], ss, _, _, hs => by simp at hs; subst hs; exact ⟨[], rfl, rfl⟩
  | [], v :: vs, _, hl, _, _ => by simp at hl
  | t :: ts, [], _, hl, _, _ => by simp at hl
  | t :: ts, v :: vs, ss, hl, h, hs => by
    simp only [List.mapM_cons, Option.pure_def, Option.bind_eq_bind, Option.bind_eq_some_iff, Option.some.injEq] at hs
    obtain ⟨s, h1, ss', h2, rfl⟩ := hs
    obtain ⟨u, hu, hc⟩ := h 0 v rfl
    simp at hu; subst hu
    obtain ⟨a, ha, hr⟩ := cell_sym (ρ := ρ) hc h1
    obtain ⟨as, has, hrs⟩ := cells_sym (ρ := ρ) (by simpa using hl) (fun i v hv => by have := h (i + 1) v (by simpa using hv); simpa using this) h2
    exact ⟨a :: as, ⟨a, as, rfl, ha, has⟩, v, vs, rfl, hr, hrs⟩

/-- A plain argument. -/
theorem arg_sym {ρ : Env} {w : World} {r : Reach} {base : Nat} {t : TypeId} {v : Value} {s : Shp} (h : Value.okWide P w r base t v) (hs : shp P t = some s) : ∃ a, s.Is a ∧ Rel ρ a v := by
  refine cell_sym (P := P) (w := w) (r := r) (base := base) (u := t) ?_ hs
  unfold Value.okWide at h
  unfold shp at hs
  split at hs <;> rename_i hu <;> first
    | (rw [hu] at h; exact h)
    | cases hs

def isStructD : Option TypeDesc → Bool
  | some (.struct _) => true
  | _ => false

def shps (P : Program) (t : TypeId) : Option (List Shp) := match P.cellTypes P.depth t with
  | some ts => bif Nat.beq (P.cellsOf t) ts.length then ts.mapM (shp P) else none
  | none => none

/-- A struct of plain cells. -/
theorem struct_sym {ρ : Env} {w : World} {r : Reach} {base : Nat} {t : TypeId} {v : Value} {ss : List Shp} (h : Value.okWide P w r base t v) (hu : isStructD (P.underlying t) = true)
    (hs : shps P t = some ss) : ∃ as, IsL ss as ∧ Rel ρ (.agg as) v := by
  unfold isStructD at hu
  split at hu
  · rename_i fs hu'
    unfold shps at hs
    split at hs
    · rename_i ts hts
      cases hn : Nat.beq (P.cellsOf t) ts.length with
      | false => rw [hn] at hs; cases hs
      | true =>
        rw [hn, cond_true] at hs
        have hn' := Nat.eq_of_beq_eq_true hn
        unfold Value.okWide at h
        rw [hu'] at h
        simp only at h
        obtain ⟨cs, rfl, hsz, ts', hts', _, hc⟩ := h
        rw [hts] at hts'
        cases hts'
        have key : ∀ (i : Nat) (v : Value), cs.toList[i]? = some v → ∃ u, ts[i]? = some u ∧ Cell.okWide P w r base u v := by
          intro i v hv
          have hv' : cs[i]? = some v := by simpa using hv
          obtain ⟨u, hu', hcell⟩ := hc i v hv'
          have hlt : i < ts.length := by have := (Array.getElem?_eq_some_iff.1 hv').1; omega
          rw [Nat.mod_eq_of_lt hlt] at hu'
          exact ⟨u, hu', hcell⟩
        obtain ⟨as, h1, h2⟩ := cells_sym (ρ := ρ) (P := P) (w := w) (r := r) (base := base) (vs := cs.toList) (ts := ts) (by simpa using hsz.trans hn') key hs
        exact ⟨as, h1, cs, rfl, h2⟩
    · cases hs
  · cases hu


/-! ### Slices of rows -/
theorem RTy.app_size : ∀ (a b : RTy), (a.app b).size = a.size + b.size
  | .one c, r => by simp [RTy.app, RTy.size]; omega
  | .cons c s, r => by simp [RTy.app, RTy.size, RTy.app_size s r]; omega

theorem RTy.app_rd {σ : Nat → Option (Array Value)} {b : RTy} {db : b.den} {ys : List Value} (hb : RTy.Rd σ b db ys) : ∀ (a : RTy) (da : a.den) (xs : List Value), RTy.Rd σ a da xs → ∃ d, RTy.Rd σ (a.app b) d (xs ++ ys)
  | .one c, da, xs, h => by
    simp only [RTy.Rd] at h
    obtain ⟨y, rfl, h⟩ := h
    exact ⟨(da, db), by simp only [RTy.app, RTy.Rd]; exact ⟨y, ys, rfl, h, hb⟩⟩
  | .cons c s, da, xs, h => by
    simp only [RTy.Rd] at h
    obtain ⟨y, ys', rfl, h1, h2⟩ := h
    obtain ⟨d, hd⟩ := RTy.app_rd hb s da.2 ys' h2
    exact ⟨(da.1, d), by simp only [RTy.app, RTy.Rd]; exact ⟨y, ys' ++ ys, rfl, h1, hd⟩⟩

theorem tyF_rd {σ : Nat → Option (Array Value)} {g : TypeId → Option RTy} {rd : TypeId → List Value → Prop} (hg : ∀ t r cs, rd t cs → g t = some r → ∃ d, RTy.Rd σ r d cs) {cs : List Value} :
    ∀ (fs : List Field) (j : Nat) (r : RTy), tyF P g fs j = some r → (∀ f ∈ fs, rd f.type ((cs.drop f.offset).take (P.cellsOf f.type))) → ∃ d, RTy.Rd σ r d ((cs.drop j).take r.size)
  | [], j, r, h, _ => by cases h
  | f :: fs, j, r, h, hf => by
    unfold tyF at h
    rw [Option.bind_eq_some_iff] at h
    obtain ⟨rf, h1, h2⟩ := h
    cases hb : (Nat.beq f.offset j && Nat.beq rf.size (P.cellsOf f.type)) with
    | false => rw [hb] at h2; cases h2
    | true =>
      rw [hb, cond_true] at h2
      rw [Bool.and_eq_true] at hb
      have e1 := Nat.eq_of_beq_eq_true hb.1
      have e2 := Nat.eq_of_beq_eq_true hb.2
      obtain ⟨d, hd⟩ := hg _ _ _ (hf f (List.mem_cons_self ..)) h1
      rw [e1, ← e2] at hd
      split at h2
      · cases h2; exact ⟨d, hd⟩
      · rw [Option.map_eq_some_iff] at h2
        obtain ⟨r2, h3, rfl⟩ := h2
        obtain ⟨d2, hd2⟩ := tyF_rd hg fs _ _ h3 fun f hm => hf f (List.mem_cons_of_mem _ hm)
        obtain ⟨d3, hd3⟩ := RTy.app_rd hd2 rf d _ hd
        refine ⟨d3, ?_⟩
        rw [RTy.app_size, List.take_add, List.drop_drop]
        exact hd3

theorem choose_list {α : Type} {p : Nat → α → Prop} : ∀ (n : Nat), (∀ i, i < n → ∃ a, p i a) → ∃ l : List α, l.length = n ∧ ∀ i a, l[i]? = some a → p i a
  | 0, _ => ⟨[], rfl, fun i a h => by simp at h⟩
  | n + 1, h => by
    obtain ⟨l, h1, h2⟩ := choose_list n fun i hi => h i (by omega)
    obtain ⟨a, ha⟩ := h n (by omega)
    refine ⟨l ++ [a], by simp [h1], fun i b hb => ?_⟩
    rw [List.getElem?_append] at hb
    split at hb
    · exact h2 i b hb
    · rename_i hi
      have : i = n := by
        have := (List.getElem?_eq_some_iff.1 hb).1
        simp at this; omega
      subst this
      simp [h1] at hb
      rw [← hb]; exact ha

/-- A slice that lies in a cell. -/
theorem sl_rd {W : World} {r : RTy} {e : TypeId} {n : Nat} {a : Addr} {len cap : Nat} {elems : List (DataW H × List MemPlace)} (hs : r.size = P.cellsOf e) (hlc : len ≤ cap) (hcm : cap ≤ maxI) (hel : elems.length = len)
    (hget : ∀ i, i < len → (W.cells? 0 (a.add (i * P.cellsOf e)) (P.cellsOf e)).bind (DataW.trod enc P W 0 (fun _ => true) true n e) = elems[i]?)
    (hE : ∀ cs x, DataW.trod enc P W 0 (fun _ => true) true n e cs = some x → ∃ d, RTy.Rd (fz0 W) r d cs) : ∃ rows : List r.den, CTy.Rd (fz0 W) (.sl r) rows (.slice (some a) len cap) := by
  obtain ⟨rows, hl, hrows⟩ := choose_list (α := r.den) (p := fun i row => ∃ cs', W.cells? 0 (a.add (i * P.cellsOf e)) (P.cellsOf e) = some cs' ∧ RTy.Rd (fz0 W) r row cs') len fun i hi => by
    have g := hget i hi
    have hi' : i < elems.length := by omega
    rw [List.getElem?_eq_getElem hi', Option.bind_eq_some_iff] at g
    obtain ⟨cs', g1, g2⟩ := g
    obtain ⟨d, hd⟩ := hE cs' _ g2
    exact ⟨d, cs', g1, hd⟩
  have hpos : 0 < r.size := by cases r <;> simp [RTy.size]
  have hsp : 0 < len → a.spot = none := fun h0 => by
    obtain ⟨cs', g1, g2⟩ := hrows 0 _ (List.getElem?_eq_getElem (by omega))
    have hlen := g2.length
    unfold World.cells? at g1
    rw [if_pos (Nat.zero_le _)] at g1
    have q := mapM_some_get g1 0 0 (by rw [List.getElem?_range (by omega)])
    rw [List.getElem?_eq_getElem (by omega)] at q
    simp only [Nat.zero_mul, Addr.add, if_true] at q
    unfold World.cell? at q
    split at q
    · cases hh : a.spot with
      | none => rfl
      | some x => simp [hh] at q
    · cases q
  simp only [CTy.Rd]
  refine ⟨rows, some a, cap, by rw [hl], by rw [hl]; exact hlc, by rw [hl]; omega, (fun h => by cases h), fun k row hk => ?_⟩
  have hk' : k < len := by
    rw [← hl]
    exact (List.getElem?_eq_some_iff.1 (show (show List r.den from rows)[k]? = some row from hk)).1
  have hsp := hsp (by omega)
  obtain ⟨cs', g1, g2⟩ := hrows k row hk
  have hlen := g2.length
  unfold World.cells? at g1
  rw [if_pos (Nat.zero_le _)] at g1
  have cell : ∀ (j : Nat) (y : Value), cs'[j]? = some y → W.cell? ⟨a.block, a.off + k * r.size + j, none⟩ = some y := by
    intro j y hj
    have hj' : j < r.size := by have := (List.getElem?_eq_some_iff.1 hj).1; omega
    have q := mapM_some_get g1 j j (by rw [List.getElem?_range (by omega)])
    rw [hj] at q
    rw [← q, ← hs]
    congr 1
    simp only [Addr.add]
    obtain ⟨ab, ao, as⟩ := a
    simp only at hsp
    subst hsp
    by_cases h1 : k * r.size = 0 <;> by_cases h2 : j = 0 <;> simp [h1, h2]
  obtain ⟨y0, hy0⟩ : ∃ y, cs'[0]? = some y := ⟨cs'[0]'(by omega), List.getElem?_eq_getElem (by omega)⟩
  have c0 := cell 0 y0 hy0
  unfold World.cell? at c0
  split at c0
  · rename_i arr ty f harr
    refine ⟨a.block, a.off, arr, cs', ?_, fz0_of harr, fun j y hj => ?_, g2⟩
    · obtain ⟨ab, ao, as⟩ := a
      simp only at hsp
      subst hsp; rfl
    · have := cell j y hj
      unfold World.cell? at this
      rw [harr] at this
      simpa using this
  · cases c0

theorem trod_rd {W : World} : ∀ (fuel : Nat) (t : TypeId) (cs : List Value) (x : DataW H × List MemPlace), DataW.trod enc P W 0 (fun _ => true) true fuel t cs = some x → ∀ (D : Nat) (r : RTy), tyR P D t = some r → ∃ d, RTy.Rd (fz0 W) r d cs
  | 0, t, cs, x, h, _, _, _ => by simp [DataW.trod] at h
  | fuel + 1, t, cs, x, h, 0, r, hr => by cases hr
  | fuel + 1, t, cs, x, h, D + 1, r, hr => by
    unfold tyR at hr
    split at hr
    · rename_i hu
      cases hr
      obtain ⟨b, rfl, _⟩ := DataW.trod_bool hu h
      exact ⟨b, by simp only [RTy.Rd]; exact ⟨_, rfl, by simp only [CTy.Rd]⟩⟩
    · rename_i k hu
      cases hr
      obtain ⟨n, rfl, _, hw⟩ := DataW.trod_int hu h
      have hk : k.has n := by simpa [Lit.wf, IntKind.has] using hw
      exact ⟨(n : Int), by simp only [RTy.Rd]; refine ⟨_, rfl, ?_⟩; simp only [CTy.Rd]; exact ⟨trivial, hk⟩⟩
    · rename_i hu
      cases hr
      obtain ⟨s, rfl, _, hl⟩ := DataW.trod_string hu h
      have hl' : s.size ≤ maxI := hl
      exact ⟨s.data.toList, by simp only [RTy.Rd]; refine ⟨_, rfl, ?_⟩; simp only [CTy.Rd]; exact ⟨trivial, hl'⟩⟩
    · rename_i fs hu
      rw [Option.bind_eq_some_iff] at hr
      obtain ⟨r', h1, h2⟩ := hr
      cases hb : Nat.beq r'.size (P.cellsOf t) with
      | false => rw [hb] at h2; cases h2
      | true =>
        rw [hb, cond_true] at h2
        cases h2
        obtain ⟨xs, n, hn, _, hl, hxl, hf⟩ := DataW.trod_struct hu h
        obtain rfl : fuel = n := by omega
        obtain ⟨d, hd⟩ := tyF_rd (P := P) (σ := fz0 W) (g := tyR P D) (cs := cs) (rd := fun t cs => ∃ x, DataW.trod enc P W 0 (fun _ => true) true fuel t cs = some x)
          (fun t r cs ⟨x, hx⟩ hg => trod_rd fuel t cs x hx D r hg) fs.toList 0 r h1 (fun f hm => by
            obtain ⟨i, hi⟩ := List.mem_iff_getElem?.1 hm
            have hi' : fs[i]? = some f := by simpa using hi
            have hlt : i < xs.length := by rw [hxl]; exact (Array.getElem?_eq_some_iff.1 hi').1
            exact ⟨xs[i], by rw [hf i f hi']; exact List.getElem?_eq_getElem hlt⟩)
        have e := Nat.eq_of_beq_eq_true hb
        rw [List.drop_zero, e, ← hl, List.take_length] at hd
        exact ⟨d, hd⟩
    · rename_i e hu
      rw [Option.bind_eq_some_iff] at hr
      obtain ⟨r', h1, h2⟩ := hr
      cases hb : Nat.beq r'.size (P.cellsOf e) with
      | false => rw [hb] at h2; cases h2
      | true =>
        rw [hb, cond_true] at h2
        cases h2
        rcases DataW.trod_slice hu h with ⟨rfl, _⟩ | ⟨a, len, cap, elems, rest, n, hn, rfl, _, _, hlc, hcm, hel, hget, _, _⟩
        · refine ⟨([] : List r'.den), ?_⟩
          simp only [RTy.Rd]
          refine ⟨_, rfl, ?_⟩
          simp only [CTy.Rd]
          exact ⟨none, 0, rfl, Nat.le_refl _, Nat.zero_le _, fun _ => rfl, fun k row hk => by simp at hk⟩
        · obtain rfl : fuel = n := by omega
          obtain ⟨rows, hR⟩ := sl_rd (enc := enc) (Nat.eq_of_beq_eq_true hb) hlc hcm hel hget fun cs x hx => trod_rd fuel e cs x hx D r' h1
          exact ⟨rows, by simp only [RTy.Rd]; exact ⟨_, rfl, hR⟩⟩
    · cases hr

/-- A slice of rows, as an argument. -/
theorem slice_symE {W : World} {rc : Reach} {base : Nat} {t e : TypeId} {v : Value} {d : DataW H} {ps : List MemPlace} {r : RTy} (E : r.den → DataW H → Prop) (h : DataW.Trod enc P W 0 (fun _ => true) true t v d ps) (hv : Value.okWide P W rc base t v)
    (hu : P.underlying t = some (.slice e)) (hE : ∀ (n : Nat) (cs : List Value) (x : DataW H × List MemPlace), DataW.trod enc P W 0 (fun _ => true) true n e cs = some x → ∃ d, RTy.Rd (fz0 W) r d cs ∧ E d x.1) (hs : Nat.beq r.size (P.cellsOf e) = true) :
    ∃ rows : List r.den, Rel (ρ0 W) (.dsl r rows) v ∧ ((d = .nil ∧ rows = []) ∨ ∃ es sp, d = .slice es sp ∧ es.length = rows.length ∧ ∀ (i : Nat) (row : r.den) (x : DataW H), rows[i]? = some row → es[i]? = some x → E row x) := by
  have hv1 : Cell.okWide P W rc base t v := by unfold Value.okWide at hv; rw [hu] at hv; exact hv
  unfold Cell.okWide at hv1
  rw [hu] at hv1
  have hv2 : Cell.ok P W rc base t v := by cases v <;> exact hv1
  unfold Cell.ok at hv2
  rw [hu] at hv2
  have hsz := Nat.eq_of_beq_eq_true hs
  obtain ⟨fuel, hfuel⟩ := h
  have hc : (∃ b l c, v = .slice b l c) ∧ ∀ a l c, v = .slice (some a) l c → a.spot = none := by
    cases v <;> first | (exact hv2.elim) | skip
    rename_i b l c
    refine ⟨⟨b, l, c, rfl⟩, fun a l' c' h => ?_⟩
    cases h
    exact hv2.2.2.2.1
  obtain ⟨⟨b, l, c, rfl⟩, hspot⟩ := hc
  rcases DataW.trod_slice hu hfuel with ⟨h1, hx⟩ | ⟨a, len, cap, elems, rest, n, hn, h1, hx, _, hlc, hcm, hel, hget, _, _⟩
  · have h1' : Value.slice b l c = .slice none 0 0 := by simpa [Value.cells] using h1
    cases h1'
    refine ⟨([] : List r.den), ?_, .inl ⟨by simpa using congrArg Prod.fst hx, rfl⟩⟩
    simp only [Rel, CTy.Rd]
    exact ⟨none, 0, rfl, Nat.le_refl _, Nat.zero_le _, fun _ => rfl, fun k row hk => by simp at hk⟩
  · have h1' : Value.slice b l c = .slice (some a) len cap := by simpa [Value.cells] using h1
    obtain ⟨rfl, rfl, rfl⟩ : b = some a ∧ l = len ∧ c = cap := by simpa using h1'
    have hsp := hspot a l c rfl
    obtain ⟨rows, hl, hrows⟩ := choose_list (α := r.den) (p := fun i row => ∃ cs', W.cells? 0 (a.add (i * P.cellsOf e)) (P.cellsOf e) = some cs' ∧ RTy.Rd (fz0 W) r row cs' ∧ ∀ x, (elems.map (·.1))[i]? = some x → E row x) l fun i hi => by
      have g := hget i hi
      have hi' : i < elems.length := by omega
      rw [List.getElem?_eq_getElem hi', Option.bind_eq_some_iff] at g
      obtain ⟨cs', g1, g2⟩ := g
      obtain ⟨d, hd, hEd⟩ := hE n cs' _ g2
      exact ⟨d, cs', g1, hd, fun x hx => by
        rw [List.getElem?_map, List.getElem?_eq_getElem hi'] at hx
        cases hx; exact hEd⟩
    refine ⟨rows, ?_, .inr ⟨elems.map (·.1), rest.map (·.1), by simpa using congrArg Prod.fst hx, by rw [List.length_map, hl, hel], fun i row x h1 h2 => let ⟨_, _, _, g⟩ := hrows i row h1; g x h2⟩⟩
    simp only [Rel, CTy.Rd]
    have hcm' : c ≤ maxI := hcm
    refine ⟨some a, c, by rw [hl], by rw [hl]; exact hlc, by rw [hl]; omega, (fun h => by cases h), fun k row hk => ?_⟩
    obtain ⟨cs', g1, g2, _⟩ := hrows k row hk
    have hlen := g2.length
    unfold World.cells? at g1
    rw [if_pos (Nat.zero_le _)] at g1
    have cell : ∀ (j : Nat) (y : Value), cs'[j]? = some y → W.cell? ⟨a.block, a.off + k * r.size + j, none⟩ = some y := by
      intro j y hj
      have hj' : j < r.size := by have := (List.getElem?_eq_some_iff.1 hj).1; omega
      have q := mapM_some_get g1 j j (by rw [List.getElem?_range (by omega)])
      rw [hj] at q
      rw [← q, ← hsz]
      congr 1
      simp only [Addr.add]
      obtain ⟨ab, ao, as⟩ := a
      simp only at hsp
      subst hsp
      by_cases h1 : k * r.size = 0 <;> by_cases h2 : j = 0 <;> simp [h1, h2]
    have hpos : 0 < r.size := by cases r <;> simp [RTy.size]
    obtain ⟨y0, hy0⟩ : ∃ y, cs'[0]? = some y := ⟨cs'[0]'(by omega), List.getElem?_eq_getElem (by omega)⟩
    have c0 := cell 0 y0 hy0
    unfold World.cell? at c0
    split at c0
    · rename_i arr ty f harr
      refine ⟨a.block, a.off, arr, cs', ?_, fz0_of harr, fun j y hj => ?_, g2⟩
      · obtain ⟨ab, ao, as⟩ := a
        simp only at hsp
        subst hsp; rfl
      · have := cell j y hj
        unfold World.cell? at this
        rw [harr] at this
        simpa using this
    · cases c0

/-- A slice of rows, as an argument. -/
theorem slice_sym {W : World} {rc : Reach} {base D : Nat} {t e : TypeId} {v : Value} {d : DataW H} {ps : List MemPlace} {r : RTy} (h : DataW.Trod enc P W 0 (fun _ => true) true t v d ps) (hv : Value.okWide P W rc base t v)
    (hu : P.underlying t = some (.slice e)) (hr : tyR P D e = some r) (hs : Nat.beq r.size (P.cellsOf e) = true) : ∃ rows : List r.den, Rel (ρ0 W) (.dsl r rows) v :=
  let ⟨rows, h1, _⟩ := slice_symE (fun _ _ => True) h hv hu (fun n cs x hx => let ⟨d, hd⟩ := trod_rd n e cs x hx D r hr; ⟨d, hd, trivial⟩) hs
  ⟨rows, h1⟩

/-- Texts, as an argument, and how they are told. -/
theorem texts_sym {W : World} {rc : Reach} {base : Nat} {t e : TypeId} {v : Value} {d : DataW H} {ps : List MemPlace} (h : DataW.Trod enc P W 0 (fun _ => true) true t v d ps) (hv : Value.okWide P W rc base t v)
    (hu : P.underlying t = some (.slice e)) (hr : P.underlying e = some .string) (hs : Nat.beq 1 (P.cellsOf e) = true) :
    ∃ rows : List (List UInt8), Rel (ρ0 W) (.dsl (.one .txt) rows) v ∧ ((d = .nil ∧ rows = []) ∨ ∃ sp, d = .slice (rows.map fun s => .lit (.string s)) sp) := by
  obtain ⟨rows, h1, h2⟩ : ∃ rows : List (List UInt8), Rel (ρ0 W) (.dsl (.one .txt) rows) v ∧ ((d = .nil ∧ rows = []) ∨ ∃ es sp, d = .slice es sp ∧ es.length = rows.length ∧ ∀ (i : Nat) (row : List UInt8) (x : DataW H), rows[i]? = some row → es[i]? = some x → x = .lit (.string row)) := slice_symE (r := .one .txt) (fun (s : List UInt8) (x : DataW H) => x = .lit (.string s)) h hv hu (fun n cs x hx => by
    obtain ⟨s, rfl, hx2, hl⟩ := DataW.trod_string hr hx
    have hl' : s.size ≤ maxI := hl
    exact ⟨s.data.toList, by simp only [RTy.Rd]; refine ⟨_, rfl, ?_⟩; simp only [CTy.Rd]; exact ⟨trivial, hl'⟩, by rw [hx2]⟩) hs
  refine ⟨rows, h1, h2.imp id fun ⟨es, sp, k1, k2, k3⟩ => ⟨sp, ?_⟩⟩
  rw [k1]
  congr 1
  apply List.ext_getElem?
  intro i
  rw [List.getElem?_map]
  cases hi : es[i]? with
  | none =>
    rw [List.getElem?_eq_none_iff] at hi
    rw [List.getElem?_eq_none (by omega)]; rfl
  | some x =>
    have hlt : i < rows.length := by
      have := (List.getElem?_eq_some_iff.1 hi).1
      omega
    rw [List.getElem?_eq_getElem hlt, k3 i _ x (List.getElem?_eq_getElem hlt) hi]; rfl
end
end Go.AM
set_option linter.unusedSimpArgs false
set_option linter.unusedVariables false
namespace Go.AM
open Go.RowKit

theorem HR.below {B : Nat} {ρ : Env} {H : Heap} {w w' : World} (h : HR B ρ H w) (hb : Below w.heap.size w w') : HR B ρ H w' where
  next := h.next
  base := Nat.le_trans h.base hb.size
  bnd b hk := Nat.lt_of_lt_of_le (h.bnd b hk) hb.size
  obj i o hi := let ⟨e, he, ho⟩ := h.obj i o hi; ⟨e, he, ho.mono (Env.le_refl _) fun hn => hb.block _ (h.bnd _ (Env.blk_of he hn))⟩
  inj := h.inj
  fz b c hc := let ⟨arr, ty, f, h1, h2⟩ := h.fz b c hc; ⟨arr, ty, f, (hb.block _ (h.fzlt hc)).trans h1, h2⟩
  fzo := h.fzo

theorem Ext.of_below {B : Nat} {ρ : Env} {H : Heap} {w w' : World} (h : HR B ρ H w) (hb : Below w.heap.size w w') : Ext B ρ w ρ w' where
  pre := Env.le_refl _
  os := hb.os
  tape := hb.tape
  output := hb.output
  size := hb.size
  below k hk := hb.block k (Nat.lt_of_lt_of_le hk h.base)
  other k hk _ := hb.block k hk
  new b hb := .inl hb
  fzn b c h := .inl h

/-- A call that leaves all that was there as it was. -/
theorem WF.lift {P : Program} {B : Nat} {f : FuncId} {args : List AV} {H : Heap} {v : AV}
    (h : ∀ (ρ : Env) (w : World) (xs : Array Value), HR B ρ H w → RelL ρ args xs.toList → ∃ x, Rel ρ v x ∧ Calls P f xs w fun e w' => e = .returned x ∧ Below w.heap.size w w') : WF P B f args H fun v' H' => v' = v ∧ H' = H :=
  fun ρ w xs hr hx => let ⟨x, hv, hc⟩ := h ρ w xs hr hx
    hc.mono fun e w' ⟨he, hb⟩ => ⟨v, x, H, ρ, he, ⟨rfl, rfl⟩, Ext.of_below hr hb, hr.below hb, hv⟩
end Go.AM
namespace Go.AM
noncomputable section
/-- Slots that are new, then those that stay; blocks that are new. -/
def patch (keep : List Nat) (sl : List (Nat × AV)) (ob : List (Nat × AObj)) (fr : Fr) (H : Heap) : List (Nat × AV) × Heap :=
  (sl ++ keep.filterMap fun t => (fr.get t).map fun v => (t, v), ob.foldl (fun H p => { t := H.t.set p.1 (some p.2), next := H.next }) { t := H.t, next := H.next })
/-- The same, with blocks laid behind. -/
def patchA (keep : List Nat) (sl : Nat → List (Nat × AV)) (ob : List (Nat × AObj)) (new : List AObj) (fr : Fr) (H : Heap) : List (Nat × AV) × Heap :=
  (sl H.next ++ keep.filterMap fun t => (fr.get t).map fun v => (t, v), new.foldl Heap.alloc (ob.foldl (fun H p => { t := H.t.set p.1 (some p.2), next := H.next }) { t := H.t, next := H.next }))
def ptrOf (fr : Fr) (t : Nat) : Nat := match fr.get t with
  | some (.ptr i _) => i
  | _ => 0
def intOf (fr : Fr) (t : Nat) : Int := match fr.get t with
  | some (.sI _ n) => n
  | some (.int _ n) => n
  | _ => 0
def avOf (fr : Fr) (t : Nat) : AV := (fr.get t).getD .nilPtr
def cellOf (H : Heap) (i j : Nat) : AV := match H.get i with
  | some (.cells _ _ cs _) => (cs[j]?).getD .nilPtr
  | _ => .nilPtr
def intV : AV → Int
  | .sI _ n => n
  | .int _ n => n
  | _ => 0
def idV : AV → Nat
  | .ptr i _ => i
  | .map i => i
  | .sw i => i
  | _ => 0
def yldOf (fr : Fr) (t : Nat) : Nat := match fr.get t with
  | some (.yld i) => i
  | _ => 0
/-- A range loop's record, with some of its slots. -/
def loopKeep (keep : List Nat) (H : Heap) (l : Nat) : List (Nat × AObj) := match H.get l with
  | some (.loop st pd f fr n ps as bd) => [(l, .loop st pd f (frOf (keep.filterMap fun t => (fr.get t).map fun v => (t, v))) n ps as bd)]
  | _ => []
/-- Only these blocks stay. -/
def patchK (keep : List Nat) (sl : List (Nat × AV)) (ks : List Nat) (ob : List (Nat × AObj)) (fr : Fr) (H : Heap) : List (Nat × AV) × Heap :=
  (sl ++ keep.filterMap fun t => (fr.get t).map fun v => (t, v), (ks.filterMap (fun i => (H.get i).map fun o => (i, o)) ++ ob).foldl (fun H p => { t := H.t.set p.1 (some p.2), next := H.next }) { t := .nil, next := H.next })
end
end Go.AM
set_option linter.unusedSimpArgs false
set_option linter.unusedVariables false
namespace Go.AM
open Go.RowKit Go.Sort

def sortI (l : List Int) : List Int := l.mergeSort fun x y => decide (x ≤ y)

theorem below_grow (w : World) (os : Array Obj) : Below w.heap.size w (grow w os) where
  os := rfl
  tape := rfl
  output := rfl
  size := by simp [grow]
  block k hk := by show (w.heap ++ os)[k]? = _; rw [Array.getElem?_append_left hk]

theorem sortI_perm (l : List Int) : (sortI l).Perm l := List.mergeSort_perm l _
theorem sortI_length (l : List Int) : (sortI l).length = l.length := (sortI_perm l).length_eq

theorem WF.sort {P : Program} {B : Nat} {f : FuncId} {i : Nat} {k : IntKind} {rows : List Int} {ty : Option TypeId} {H : Heap} (hi : H.get i = some (.seq (.one (.int k)) rows ty)) (hlen : rows.length < 4611686018427387904)
    (hS : ∀ (blk off cap : Nat) (zs : List Int) (w : World), Holds (Value.int k) w blk off zs.toArray → blk < w.heap.size → zs.length < 4611686018427387904 →
      Calls P f #[.slice (some ⟨blk, off, none⟩) zs.length cap] w fun e w' => e = .returned (.tuple #[]) ∧ ∃ n os, w' = grow (putRow (Value.int k) (Sort.ahead w n) blk off (zs.mergeSort fun x y => decide (x ≤ y)).toArray) os)
    (hN : ∀ (p : Option Addr) (cap : Nat) (w : World), Calls P f #[.slice p 0 cap] w fun e w' => e = .returned (.tuple #[]) ∧ w' = w) :
    WF P B f [.sw i] H fun v H' => v = .tup [] ∧ H' = H.set i (.seq (.one (.int k)) (sortI rows) ty) := by
  intro ρ w xs hr hx
  simp only [RelL, Rel] at hx
  obtain ⟨x, l, hxs, ⟨e, base, c, he, rfl, hc, hcm, hbase⟩, rfl⟩ := hx
  obtain ⟨xs⟩ := xs
  simp only at hxs
  subst hxs
  obtain ⟨e', he', hO⟩ := hr.obj i _ hi
  rw [he] at he'
  cases he'
  have hO0 := hO
  obtain ⟨hes, hrl, hcase⟩ := hO
  have hes : e.es = 1 := hes
  have hrl : rows.length = e.len := hrl
  by_cases hz : e.len = 0
  · have hrows : rows = [] := List.eq_nil_of_length_eq_zero (by omega)
    subst hrows
    rw [hz]
    refine (hN base c w).mono fun en w' ⟨h1, h2⟩ => ?_
    subst h2
    refine ⟨.tup [], .tuple #[], H.set i (.seq (.one (.int k)) (sortI []) ty), ρ, h1, ⟨rfl, rfl⟩, Ext.refl _ _ _, ?_, by simp [Rel, RelL]⟩
    have hs : sortI [] = [] := List.eq_nil_of_length_eq_zero (by rw [sortI_length]; rfl)
    rw [hs]
    refine ⟨hr.next, hr.base, hr.bnd, fun j o hj => ?_, fun j j' o o' e1 e2 hj hj' => ?_, hr.fz, fun j o e1 c hj => ?_⟩
    · rw [Heap.get_set] at hj
      split at hj
      · cases hj; rename_i hji; rw [hji]; exact ⟨e, he, hO0⟩
      · exact hr.obj j o hj
    · have live : ∀ j o, (H.set i (.seq (.one (.int k)) ([] : List Int) ty)).get j = some o → ∃ o2, H.get j = some o2 := fun j o h => by
        rw [Heap.get_set] at h
        split at h
        · rename_i hji; rw [hji]; exact ⟨_, hi⟩
        · exact ⟨_, h⟩
      obtain ⟨o3, h3⟩ := live _ _ hj
      obtain ⟨o4, h4⟩ := live _ _ hj'
      exact hr.inj j j' o3 o4 e1 e2 h3 h4
    · rw [Heap.get_set] at hj
      split at hj
      · rename_i hji; rw [hji]; exact hr.fzo i _ e1 c hi
      · exact hr.fzo j o e1 c hj
  · rcases hcase with ⟨_, hn⟩ | ⟨hnb, arr, t, fz, hb, hsz, hin, hB, huf, hty⟩
    · exfalso
      have hn : rows = [] := hn
      rw [hn] at hrl; simp at hrl; omega
    have hbase' : base = some ⟨e.b, e.sh, none⟩ ∧ e.sh + c * e.es ≤ e.n := by
      rcases hbase with ⟨_, h⟩ | ⟨a, _, _, h⟩ | ⟨_, h1, h2⟩
      · omega
      · omega
      · exact ⟨h1, h2⟩
    obtain ⟨rfl, hcn⟩ := hbase'
    have hfit : e.sh + e.len ≤ e.n := by rw [hes] at hcn; omega
    have hcell : ∀ j (hj : j < rows.length), arr[e.sh + j]? = some (.int k rows[j]) ∧ k.has rows[j] := by
      intro j hj
      obtain ⟨ys, h1, h2⟩ := hin j rows[j] (List.getElem?_eq_getElem hj)
      simp only [RTy.Rd, CTy.Rd] at h2
      obtain ⟨y, rfl, rfl, h4⟩ := h2
      have := h1 0 _ rfl
      simp only [RTy.size, Nat.mul_one, Nat.add_zero] at this
      exact ⟨this, h4⟩
    have hH : Holds (Value.int k) w e.b e.sh rows.toArray := by
      intro j hj
      have hj' : j < rows.length := by simpa using hj
      have e1 : rows.toArray[j]! = rows[j] := by rw [getElem!_pos _ j hj]; simp
      rw [e1]
      refine ⟨?_, ?_⟩
      · unfold World.cell?
        rw [hb]
        simp only [Option.isSome_none, Bool.false_eq_true, if_false]
        exact (hcell j hj').1
      · unfold World.frozen?
        rw [hb]
        have := huf (e.sh + j) (by omega)
        obtain ⟨lo, hi2⟩ := fz
        simp only at this ⊢
        cases hd : (decide (lo ≤ e.sh + j) && decide (e.sh + j < hi2)) with
        | false => rfl
        | true => simp only [Bool.and_eq_true, decide_eq_true_eq] at hd; exact (this hd).elim
    have hblt : e.b < w.heap.size := (Array.getElem?_eq_some_iff.1 hb).1
    have hS' := hS e.b e.sh c rows w hH hblt hlen
    rw [hrl] at hS'
    refine hS'.mono fun en w' ⟨h1, n, os, h2⟩ => ?_
    subst h2
    generalize hw1 : putRow (Value.int k) (Sort.ahead w n) e.b e.sh (rows.mergeSort fun x y => decide (x ≤ y)).toArray = w1
    have hsz1 : w1.heap.size = w.heap.size := by subst hw1; simp [putRow, mapBlock, Sort.ahead]
    have hoth : ∀ j, j ≠ e.b → w1.heap[j]? = w.heap[j]? := by
      intro j hj
      subst hw1
      show (w.heap.modify e.b _)[j]? = _
      rw [Array.getElem?_modify, if_neg fun h => hj h.symm]
    have hblk : w1.heap[e.b]? = some (.cells (putCells (Value.int k) e.sh (sortI rows).toArray arr) t fz) := by
      subst hw1
      show (w.heap.modify e.b _)[e.b]? = _
      rw [Array.getElem?_modify, if_pos rfl, hb]; rfl
    have hos1 : w1.os = w.os := by subst hw1; rfl
    have htp1 : w1.tape = w.tape := by subst hw1; rfl
    have hot1 : w1.output = w.output := by subst hw1; rfl
    have hsl : (sortI rows).length = rows.length := sortI_length rows
    have key : HR B ρ (H.set i (.seq (.one (.int k)) (sortI rows) ty)) w1 := by
      refine hr.turn hi he hnb hB _ hsz1 hoth ⟨hes, by show (sortI rows).length = _; rw [hsl]; exact hrl, .inr ⟨hnb, _, t, fz, hblk, ?_, fun j row hj => ?_, hB, huf, hty⟩⟩
      · simp [putCells, hsz]
      · have hj0 : (sortI rows)[j]? = some row := hj
        have hj' : j < (sortI rows).length := (List.getElem?_eq_some_iff.1 hj0).1
        have hrow : (sortI rows)[j] = row := (List.getElem?_eq_some_iff.1 hj0).2
        have hmem : @Membership.mem Int (List Int) _ rows row := (sortI_perm rows).mem_iff.1 (List.mem_of_getElem? hj0)
        have hall : ∀ z, @Membership.mem Int (List Int) _ rows z → k.has z := fun z hz => by
          obtain ⟨q, hql, hqe⟩ := List.mem_iff_getElem.1 hz
          exact hqe ▸ (hcell q hql).2
        have hk : k.has row := hall row hmem
        refine ⟨[.int k row], fun j2 y hy => ?_, by simp only [RTy.Rd]; exact ⟨_, rfl, by simp only [CTy.Rd]; exact ⟨trivial, hk⟩⟩⟩
        cases j2 with
        | succ j2 => simp at hy
        | zero =>
          simp only [List.getElem?_cons_zero, Option.some.injEq] at hy
          subst hy
          simp only [RTy.size, Nat.mul_one, Nat.add_zero]
          have hlt : e.sh + j < arr.size := by omega
          unfold putCells
          rw [Array.getElem?_mapIdx, Array.getElem?_eq_getElem hlt]
          simp only [Option.map_some]
          have hin2 : e.sh ≤ e.sh + j ∧ e.sh + j < e.sh + (sortI rows).toArray.size := ⟨Nat.le_add_right _ _, by simp; omega⟩
          rw [if_pos hin2]
          have : e.sh + j - e.sh = j := by omega
          rw [this, getElem!_pos _ j (by simpa using hj')]
          simp [hrow]
    have ext1 : Ext B ρ w ρ w1 := Ext.turn (Env.blk_of he hnb) hB hsz1 hoth hos1 htp1 hot1
    have hb2 := below_grow w1 os
    exact ⟨.tup [], .tuple #[], _, ρ, h1, ⟨rfl, rfl⟩, ext1.trans (Ext.of_below key hb2), key.below hb2, by simp [Rel, RelL]⟩
end Go.AM
set_option linter.unusedSimpArgs false
set_option linter.unusedVariables false
namespace Go.AM
open Go.RowKit

/-- The names of before, what holds for good now. -/
def Env.back (ρ ρ' : Env) : Env := { ats := ρ.ats, fz := ρ'.fz }

theorem back_get {ρ ρ' : Env} (h : ρ.le ρ') {i : Nat} {e e' : At} (h1 : ρ.ats[i]? = some e) (h2 : ρ'.ats[i]? = some e') : ρ.ats[i]? = some e' := by
  have := pre_get h.ats h1
  rw [this] at h2
  rw [h1]; exact h2

mutual
theorem Rel.back {ρ ρ' : Env} (h : ρ.le ρ') : ∀ {v : AV} {x y : Value}, Rel ρ v x → Rel ρ' v y → Rel (ρ.back ρ') v y
  | .sI _ _, _, _, _, hr | .sB _, _, _, _, hr | .sS _, _, _, _, hr | .bool _, _, _, _, hr | .int _ _, _, _, _, hr | .str _, _, _, _, hr | .nilPtr, _, _, _, hr | .nilSlc, _, _, _, hr | .nilMap, _, _, _, hr | .nilFn, _, _, _, hr | .nilIface, _, _, _, hr | .emp, _, _, _, hr => by
    simp only [Rel] at *; exact hr
  | .ptr i off, _, _, h0, hr => by
    simp only [Rel, Env.back] at *; obtain ⟨e0, he0, _⟩ := h0; obtain ⟨e, he, hx⟩ := hr; exact ⟨e, back_get h he0 he, hx⟩
  | .slc i off len cap ex, _, _, h0, hr => by
    simp only [Rel, Env.back] at *; obtain ⟨e0, c0, he0, _⟩ := h0; obtain ⟨e, c, he, hx⟩ := hr; exact ⟨e, c, back_get h he0 he, hx⟩
  | .map i, _, _, h0, hr => by
    simp only [Rel, Env.back] at *; obtain ⟨e0, he0, _⟩ := h0; obtain ⟨e, he, hx⟩ := hr; exact ⟨e, back_get h he0 he, hx⟩
  | .yld i, _, _, h0, hr => by
    simp only [Rel, Env.back] at *; obtain ⟨e0, he0, _⟩ := h0; obtain ⟨e, he, hx⟩ := hr; exact ⟨e, back_get h he0 he, hx⟩
  | .sw i, _, _, h0, hr => by
    simp only [Rel, Env.back] at *; obtain ⟨e0, b0, c0, he0, _⟩ := h0; obtain ⟨e, b, c, he, hx⟩ := hr; exact ⟨e, b, c, back_get h he0 he, hx⟩
  | .ss i lo len, _, _, h0, hr => by
    simp only [Rel, Env.back] at *; obtain ⟨e0, b0, c0, he0, _⟩ := h0; obtain ⟨e, b, c, he, hx⟩ := hr; exact ⟨e, b, c, back_get h he0 he, hx⟩
  | .eptr i k j, _, _, h0, hr => by
    simp only [Rel, Env.back] at *; obtain ⟨e0, he0, _⟩ := h0; obtain ⟨e, he, hx⟩ := hr; exact ⟨e, back_get h he0 he, hx⟩
  | .dsl r rows, _, _, _, hr => by
    simp only [Rel, Env.back] at *; exact hr
  | .dptr r row j, _, _, _, hr => by
    simp only [Rel, Env.back] at *; exact hr
  | .fn f fs cs, _, _, h0, hr => by
    simp only [Rel] at *
    obtain ⟨a0, b0, hx0, k1, k2⟩ := h0
    obtain ⟨a, b, hx, h1, h2⟩ := hr
    exact ⟨a, b, hx, k1.back h h1, k2.back h h2⟩
  | .iface t v, _, _, h0, hr => by
    simp only [Rel] at *
    obtain ⟨y0, hx0, k1⟩ := h0
    obtain ⟨y, hx, h1⟩ := hr
    exact ⟨y, hx, k1.back h h1⟩
  | .agg cs, _, _, h0, hr => by
    simp only [Rel] at *
    obtain ⟨y0, hx0, k1⟩ := h0
    obtain ⟨y, hx, h1⟩ := hr
    exact ⟨y, hx, k1.back h h1⟩
  | .tup cs, _, _, h0, hr => by
    simp only [Rel] at *
    obtain ⟨y0, hx0, k1⟩ := h0
    obtain ⟨y, hx, h1⟩ := hr
    exact ⟨y, hx, k1.back h h1⟩
theorem RelL.back {ρ ρ' : Env} (h : ρ.le ρ') : ∀ {vs : List AV} {xs ys : List Value}, RelL ρ vs xs → RelL ρ' vs ys → RelL (ρ.back ρ') vs ys
  | [], _, _, _, hr => by simp only [RelL] at *; exact hr
  | v :: vs, _, _, h0, hr => by
    simp only [RelL] at *
    obtain ⟨x, xs, e0, k1, k2⟩ := h0
    obtain ⟨y, ys, e, h1, h2⟩ := hr
    exact ⟨y, ys, e, k1.back h h1, k2.back h h2⟩
end

theorem EntL.back {ρ ρ' : Env} (h : ρ.le ρ') : ∀ {es : List Ent} {xs ys : List MapEntry}, EntL ρ es xs → EntL ρ' es ys → EntL (ρ.back ρ') es ys
  | [], _, _, _, hr => hr
  | _ :: _, _, _, h0, hr => by
    obtain ⟨y0, ys0, e0, k1, k2, k3, k4⟩ := h0
    obtain ⟨y, ys, e, h1, h2, h3, h4⟩ := hr
    exact ⟨y, ys, e, k1.back h h1, k2.back h h2, h3, k4.back h h4⟩

theorem ORel.back {ρ ρ' : Env} {B : Nat} {w w' : World} {e : At} {o : AObj} (h : ρ.le ρ') (h0 : ORel ρ B w e o) (ho : ORel ρ' B w' e o) : ORel (ρ.back ρ') B w' e o := by
  cases o with
  | cells ro es cs oty =>
    obtain ⟨_, _, arr0, _, _, _, _, k4, _⟩ := h0
    obtain ⟨h0, h1, arr, ty, fz, h2, h3, h4, h5⟩ := ho
    refine ⟨h0, h1, arr, ty, fz, h2, h3, fun j v hj => ?_, h5⟩
    obtain ⟨x0, _, r0⟩ := k4 j v hj
    obtain ⟨x, hx, hr⟩ := h4 j v hj
    exact ⟨x, hx, r0.back h hr⟩
  | map es clock =>
    obtain ⟨_, _, arr0, _, k3⟩ := h0
    obtain ⟨h0, h1, arr, h2, h3⟩ := ho; exact ⟨h0, h1, arr, h2, k3.back h h3⟩
  | sIter s pos => exact ho
  | mIter m since seen stepped =>
    obtain ⟨_, _, _, em0, k2, _⟩ := h0
    obtain ⟨h00, h0, h1, em, h2, h3⟩ := ho; exact ⟨h00, h0, h1, em, back_get h k2 h2, h3⟩
  | loop st pending fn fr n params assign body =>
    obtain ⟨_, _, tmps0, _, _, _, k3, _⟩ := h0
    obtain ⟨h0, h1, tmps, d, f, h2, h3, h4⟩ := ho
    refine ⟨h0, h1, tmps, d, f, h2, fun t v ht => ?_, h4⟩
    obtain ⟨x0, _, r0⟩ := k3 t v ht
    obtain ⟨x, hx, hr⟩ := h3 t v ht
    exact ⟨x, hx, r0.back h hr⟩
  | seq r rows oty => exact ho
  | smap ka va kr vr m bs clk => exact ho
  | smIter m since seen stepped =>
    obtain ⟨_, _, _, em0, k2, _⟩ := h0
    obtain ⟨h00, h0, h1, em, h2, h3⟩ := ho; exact ⟨h00, h0, h1, em, back_get h k2 h2, h3⟩
  | cmIter m since pre now stepped =>
    obtain ⟨_, _, _, em0, k2, _⟩ := h0
    obtain ⟨h00, h0, h1, em, h2, h3⟩ := ho; exact ⟨h00, h0, h1, em, back_get h k2 h2, h3⟩

section
variable {P : Program} {B : Nat} {f : FuncId} {args : List AV} {H : Heap}

/-- The state of before, at the world of now. -/
theorem HR.back {ρ ρ' : Env} {H' : Heap} {w w' : World} (hr : HR B ρ H w) (hr' : HR B ρ' H' w') (he : Ext B ρ w ρ' w') (hk : ∀ k, k < H.next → H'.get k = H.get k) : HR B (ρ.back ρ') H w' where
  next := hr.next
  base := hr'.base
  bnd b hb := by
    have := hr.bnd b hb
    have := he.size
    omega
  obj k o hko := by
    obtain ⟨e0, he0, h0⟩ := hr.obj k o hko
    obtain ⟨e, he1, h1⟩ := hr'.obj k o (by rw [hk k (hr.old hko)]; exact hko)
    have := back_get he.pre he0 he1
    rw [he0] at this
    cases this
    exact ⟨e0, he0, h0.back he.pre h1⟩
  inj := hr.inj
  fz := hr'.fz
  fzo k o e c hko hek hnb hc := by
    have h1 : H'.get k = some o := by rw [hk k (hr.old hko)]; exact hko
    exact hr'.fzo k o e c h1 (pre_get he.pre.ats hek) hnb hc

theorem Ext.back {ρ ρ' : Env} {w w' : World} (he : Ext B ρ w ρ' w') : Ext B ρ w (ρ.back ρ') w' where
  pre := ⟨List.prefix_refl _, he.pre.fz⟩
  os := he.os
  tape := he.tape
  output := he.output
  size := he.size
  below := he.below
  other := he.other
  new b hb := .inl hb
  fzn b c hc := he.fzn b c hc

theorem WF.look {Q : AV → Prop} (h : WF P B f args H fun v H' => (∀ k, k < H.next → H'.get k = H.get k) ∧ v.closed = true ∧ Q v) : WF P B f args H fun v H' => Q v ∧ H' = H := by
  intro ρ w xs hr hx
  refine (h ρ w xs hr hx).mono ?_
  rintro e w' ⟨v, x, H', ρ', rfl, ⟨h1, h2, h3⟩, he, hr', hv⟩
  exact ⟨v, x, H, ρ.back ρ', rfl, ⟨h3, rfl⟩, he.back, hr.back hr' he h1, Rel.closed (ρ := ρ') (ρ' := ρ.back ρ') (fun _ _ h => h) h2 hv⟩

/-- The same, with a row that is new. -/
theorem WF.lookNew {r : RTy} {R : List r.den → Prop} (h : WF P B f args H fun v H' => (∀ k, k < H.next → H'.get k = H.get k) ∧ ∃ j rows ty, H.next ≤ j ∧ v = .sw j ∧ H'.get j = some (.seq r rows ty) ∧ R rows) :
    WF P B f args H fun v H' => ∃ rows, R rows ∧ v = .sw H.next ∧ H' = H.alloc (.seq r rows none) := by
  intro ρ w xs hr hx
  refine (h ρ w xs hr hx).mono ?_
  rintro en w' ⟨v, x, H', ρ', rfl, ⟨h1, j, rows, ty, hj, rfl, hjo, hR⟩, he, hr', hv⟩
  have hb := hr.back hr' he h1
  obtain ⟨e, hej, hO⟩ := hr'.obj j _ hjo
  have hO' : ORel (ρ.back ρ') B w' e (.seq r rows none) := by
    obtain ⟨k0, k1, k2⟩ := hO
    refine ⟨k0, k1, k2.imp id fun ⟨g1, arr, t, fz, g2, g3, g4, g5, g6, _⟩ => ⟨g1, arr, t, fz, g2, g3, g4, g5, g6, fun t h => by cases h⟩⟩
  have hB : e.nb = false → B ≤ e.b := fun hn => by
    obtain ⟨_, _, h | ⟨_, arr, t, fz, _, _, _, hB, _⟩⟩ := hO
    · rw [hn] at h; cases h.1
    · exact hB
  have hold : ∀ k o, H.get k = some o → k < ρ.ats.length := fun k o h => by rw [← hr.next]; exact hr.old h
  have hne : ∀ k o ek, H.get k = some o → ρ.ats[k]? = some ek → ek.nb = false → e.nb = false → ek.b ≠ e.b := fun k o ek hk hek h2 h3 hbb => by
    have hkl := hr.old hk
    have := hr'.inj j k _ o e ek hjo (by rw [h1 k hkl]; exact hk) hej (pre_get he.pre.ats hek) h3 h2 hbb.symm (by omega)
    have := hB h3
    omega
  have hrow : e.nb = false → ¬ ρ.blk e.b ∨ ρ.blk e.b := fun _ => (Classical.em _).symm
  have hget : ∀ k ek, ((ρ.back ρ').add e).ats[k]? = some ek → k < ρ.ats.length → ρ.ats[k]? = some ek := fun k ek h hk => by
    have h : (ρ.ats ++ [e])[k]? = some ek := h
    rw [List.getElem?_append_left hk] at h; exact h
  have hnew : ∀ ek, ((ρ.back ρ').add e).ats[H.next]? = some ek → ek = e := fun ek h => by
    rw [hr.next] at h
    have h : (ρ.ats ++ [e])[ρ.ats.length]? = some ek := h
    rw [List.getElem?_append_right (Nat.le_refl _), Nat.sub_self] at h
    simpa using h.symm
  have hlast : (ρ.ats ++ [e])[ρ.ats.length]? = some e := by rw [List.getElem?_append_right (Nat.le_refl _), Nat.sub_self]; rfl
  refine ⟨.sw H.next, x, H.alloc (.seq r rows none), (ρ.back ρ').add e, rfl, ⟨rows, hR, rfl, rfl⟩, ?_, ?_, ?_⟩
  · refine ⟨⟨List.prefix_append _ _, he.pre.fz⟩, he.os, he.tape, he.output, he.size, he.below, he.other, fun b hbk => ?_, fun b c hc => he.fzn b c hc⟩
    rcases Env.blk_add.1 hbk with g | ⟨g1, g2⟩
    · exact .inl g
    · subst g2; exact he.new _ (Env.blk_of hej g1)
  · refine ⟨?_, hb.base, fun b hbk => ?_, fun k o hk => ?_, fun k k' o o' e1 e2 hk hk' g1 g2 n1 n2 hbb hne' => ?_, hb.fz, fun k o e1 c hk g1 n1 hc => ?_⟩
    · simp only [Heap.next_alloc, Env.add_ats, List.length_append, List.length_singleton, hr.next]; rfl
    · rcases Env.blk_add.1 hbk with g | ⟨g1, g2⟩
      · exact hb.bnd b g
      · subst g2; exact hr'.bnd _ (Env.blk_of hej g1)
    · rw [Heap.get_alloc] at hk
      split at hk
      · rename_i hkn
        cases hk
        refine ⟨e, ?_, hO'.mono (Env.le_add _ _) fun _ => rfl⟩
        rw [hkn, hr.next]; exact hlast
      · obtain ⟨e1, g1, g2⟩ := hb.obj k o hk
        exact ⟨e1, pre_get (List.prefix_append _ _) g1, g2.mono (Env.le_add _ _) fun _ => rfl⟩
    · rw [Heap.get_alloc] at hk hk'
      split at hk
      · rename_i hkn
        subst hkn
        have := hnew e1 g1; subst this
        rw [if_neg fun h => hne' h.symm] at hk'
        exact (hne k' o' e2 hk' (hget k' e2 g2 (hold k' o' hk')) n2 n1 hbb.symm).elim
      · split at hk'
        · rename_i hkn
          subst hkn
          have := hnew e2 g2; subst this
          exact (hne k o e1 hk (hget k e1 g1 (hold k o hk)) n1 n2 hbb).elim
        · exact hr.inj k k' o o' e1 e2 hk hk' (hget k e1 g1 (hold k o hk)) (hget k' e2 g2 (hold k' o' hk')) n1 n2 hbb hne'
    · rw [Heap.get_alloc] at hk
      split at hk
      · rename_i hkn
        subst hkn
        have := hnew e1 g1; subst this
        exact hr'.fzo j _ e1 c hjo hej n1 hc
      · exact hb.fzo k o e1 c hk (hget k e1 g1 (hold k o hk)) n1 hc
  · simp only [Rel] at hv ⊢
    obtain ⟨e', base, c, g1, g2⟩ := hv
    rw [hej] at g1; cases g1
    refine ⟨e, base, c, ?_, g2⟩
    rw [hr.next]; exact hlast

mutual
theorem ren_closed (g : Nat → Nat) : ∀ {v : AV}, v.closed = true → v.ren g = v
  | .sI _ _, _ | .sB _, _ | .sS _, _ | .bool _, _ | .int _ _, _ | .str _, _ | .nilPtr, _ | .nilSlc, _ | .nilMap, _ | .nilFn, _ | .nilIface, _ | .emp, _ | .dsl _ _, _ | .dptr _ _ _, _ => by simp only [AV.ren]
  | .ptr _ _, hc | .slc _ _ _ _ _, hc | .map _, hc | .yld _, hc | .eptr _ _ _, hc | .sw _, hc | .ss _ _ _, hc => by simp [AV.closed] at hc
  | .fn f fs cs, hc => by
    simp only [AV.closed, Bool.and_eq_true] at hc
    simp only [AV.ren, renL_closed g hc.1, renL_closed g hc.2]
  | .iface t v, hc => by
    simp only [AV.closed] at hc
    simp only [AV.ren, ren_closed g hc]
  | .agg cs, hc => by
    simp only [AV.closed] at hc
    simp only [AV.ren, renL_closed g hc]
  | .tup cs, hc => by
    simp only [AV.closed] at hc
    simp only [AV.ren, renL_closed g hc]
theorem renL_closed (g : Nat → Nat) : ∀ {vs : List AV}, closedL vs = true → AV.renL g vs = vs
  | [], _ => by simp only [AV.renL]
  | v :: vs, hc => by
    simp only [closedL, Bool.and_eq_true] at hc
    simp only [AV.renL, ren_closed g hc.1, renL_closed g hc.2]
end

theorem aboveL_zero : ∀ l : List (Nat × Src), aboveL 0 l = true
  | [] => rfl
  | (i, s) :: l => by
    simp only [aboveL, aboveL_zero l, Bool.and_true, Bool.and_eq_true]
    refine ⟨Nat.ble_eq_true_of_le (Nat.zero_le _), ?_⟩
    split
    · rfl
    · exact Nat.ble_eq_true_of_le (Nat.zero_le _)

theorem distinct_same : ∀ {js : List Nat} {i0 : Nat} {is ns : List Nat}, js.Nodup → (∀ j ∈ js, j ∉ ns) → (∀ i ∈ is, i < i0) → distinctL (sameGo i0 js) is ns = true
  | [], _, _, _, _, _, _ => rfl
  | j :: js, i0, is, ns, hn, h1, h2 => by
    rw [List.nodup_cons] at hn
    have a1 : natMem i0 is = false := by
      cases hb : natMem i0 is with
      | false => rfl
      | true => rw [natMem_iff] at hb; have := h2 _ hb; omega
    have a2 : natMem j ns = false := by
      cases hb : natMem j ns with
      | false => rfl
      | true => rw [natMem_iff] at hb; exact (h1 j (List.mem_cons_self ..) hb).elim
    simp only [sameGo, distinctL, Src.id?, a1, a2, Bool.not_false, Bool.true_and]
    refine distinct_same hn.2 (fun j' hj' hm => ?_) (fun i hi => ?_)
    · rcases List.mem_cons.1 hm with rfl | hm
      · exact hn.1 hj'
      · exact h1 j' (List.mem_cons_of_mem _ hj') hm
    · rcases List.mem_cons.1 hi with rfl | hi
      · omega
      · have := h2 i hi; omega

theorem sameRen_mem : ∀ {js : List Nat} {i0 : Nat} {p : Nat × Src}, p ∈ sameGo i0 js → i0 ≤ p.1 ∧ p.1 < i0 + js.length ∧ ∃ j, p.2 = .same j
  | [], _, _, h => by cases h
  | j :: js, i0, p, h => by
    simp only [sameGo] at h
    rcases List.mem_cons.1 h with rfl | h
    · exact ⟨Nat.le_refl _, by simp, j, rfl⟩
    · obtain ⟨h1, h2, h3⟩ := sameRen_mem h
      exact ⟨by omega, by simp only [List.length_cons]; omega, h3⟩

/-- A small state, found in a large one. -/
theorem mS_small {H0 H : Heap} {js : List Nat} (hnd : js.Nodup) (hn : H0.next = js.length) (ht : T.allK (fun i => Nat.blt i H0.next) H0.t = true)
    (ho : ∀ i o, i < js.length → H0.get i = some o → ∃ j ps, js[i]? = some j ∧ mO (sameRen 0 js) o (.same j) (H.get j) = some ps ∧ AllP ps) : ∃ ps, mS 0 (sameRen 0 js) [] H0 .nil H = some ps ∧ AllP ps := by
  have hos : ∀ l : List Nat, (∀ i ∈ l, i < js.length) → ∃ ps, mOs (sameRen 0 js) H0 H l = some ps ∧ AllP ps := by
    intro l
    induction l with
    | nil => intro _; exact ⟨[], rfl, trivial⟩
    | cons i l ih =>
      intro hl
      obtain ⟨qs, hq1, hq2⟩ := ih fun i hi => hl i (List.mem_cons_of_mem _ hi)
      unfold mOs
      refine Ft.and ?_ ⟨qs, hq1, hq2⟩
      cases h : H0.get i with
      | none => exact ⟨[], rfl, trivial⟩
      | some o =>
        obtain ⟨j, ps, h1, h2, h3⟩ := ho i o (hl i (List.mem_cons_self ..)) h
        have hlk : lk (sameRen 0 js) i = some (.same j) := by rw [lk_sameRen, if_pos (Nat.zero_le _), Nat.sub_zero, h1]; rfl
        simp only [hlk, Src.id?, Option.bind_some]
        exact ⟨ps, h2, h3⟩
  obtain ⟨ps, h1, h2⟩ := hos (List.range H0.next) fun i hi => by rw [List.mem_range] at hi; omega
  refine ⟨ps, ?_, h2⟩
  unfold mS
  have c1 : (rootsOk (sameRen 0 js) 0 && Nat.ble 0 H0.next && Nat.ble 0 H.next && distinct (sameRen 0 js) && keysOk (sameRen 0 js) H0.next && subsOk H0 (sameRen 0 js) && T.allK (fun i => Nat.blt i H0.next) H0.t) = true := by
    have a0 : distinct (sameRen 0 js) = true := by
      unfold distinct
      rw [show (sameRen 0 js).l = sameGo 0 js from rfl, distinct_same hnd (fun _ _ h => by cases h) (fun _ h => by cases h), Bool.and_true]
      exact aboveL_zero _
    rw [ht, a0]
    have a1 : keysOk (sameRen 0 js) H0.next = true := by
      unfold keysOk
      rw [show Nat.ble (sameRen 0 js).k H0.next = true from Nat.ble_eq_true_of_le (Nat.zero_le _), Bool.true_and, List.all_eq_true]
      intro p hp
      have := sameRen_mem hp
      rw [Nat.blt_eq]; omega
    have a2 : subsOk H0 (sameRen 0 js) = true := by
      unfold subsOk
      rw [List.all_eq_true]
      intro p hp
      obtain ⟨_, _, j, hj⟩ := sameRen_mem hp
      rw [hj]
    rw [a1, a2]
    simp [rootsOk]
  rw [c1, cond_true]
  simp only [mF, h1, andP]
  rfl

section
variable {P : Program} {B : Nat} {f : FuncId} {args args0 : List AV} {H H0 : Heap}

theorem graft_keep {js : List Nat} {H H0 H0' : Heap} (hnd : js.Nodup) (hlt : ∀ j ∈ js, j < H.next) (hn : H0.next = js.length) (hk : ∀ i j, js[i]? = some j → H.get j = (H0.get i).map (AObj.ren (newName js H.next)))
    (h0 : ∀ k, k < H0.next → H0'.get k = H0.get k) : ∀ k, k < H.next → (graft js H H0').get k = H.get k := by
  intro k hkn
  have hinj : ∀ i i', newName js H.next i = newName js H.next i' → i = i' := fun i i' hgg => by
    simp only [newName] at hgg
    cases h1 : js[i]? with
    | none =>
      cases h2 : js[i']? with
      | none =>
        rw [h1, h2] at hgg
        have a1 := List.getElem?_eq_none_iff.1 h1
        have a2 := List.getElem?_eq_none_iff.1 h2
        simp only at hgg; omega
      | some j' => rw [h1, h2] at hgg; have := hlt j' (List.mem_of_getElem? h2); simp only at hgg; omega
    | some j =>
      cases h2 : js[i']? with
      | none => rw [h1, h2] at hgg; have := hlt j (List.mem_of_getElem? h1); simp only at hgg; omega
      | some j' =>
        rw [h1, h2] at hgg
        simp only at hgg
        subst hgg
        have hi : i < js.length := (List.getElem?_eq_some_iff.1 h1).1
        exact (List.getElem?_inj hi hnd).1 (h1.trans h2.symm)
  obtain ⟨g1, g2⟩ := graftGo_get (g := newName js H.next) H0' (List.range H0'.next) H.t List.nodup_range (fun i _ j _ hij => hinj i j hij) k
  by_cases hex : ∃ i, i ∈ List.range H0'.next ∧ newName js H.next i = k
  · obtain ⟨i, hi, hik⟩ := hex
    have e := g1 i hi hik
    show (graftGo (newName js H.next) H0' (List.range H0'.next) H.t).get k = _
    rw [e]
    cases hj : js[i]? with
    | none =>
      simp only [newName, hj] at hik
      omega
    | some j =>
      have hjk : j = k := by simpa only [newName, hj] using hik
      subst hjk
      have hil : i < js.length := (List.getElem?_eq_some_iff.1 hj).1
      rw [h0 i (by omega), hk i j hj]
  · exact g2 fun i hi hik => hex ⟨i, hi, hik⟩

/-- A call that only looks, proved at a small heap. -/
theorem WF.lookAt {Q : AV → Prop} (h : WF P B f args0 H0 fun v H' => (∀ k, k < H0.next → H'.get k = H0.get k) ∧ v.closed = true ∧ Q v) (js : List Nat) (hnd : js.Nodup) (hn : H0.next = js.length) (hl : allLive H0 = true)
    (ht : T.allK (fun i => Nat.blt i H0.next) H0.t = true) {qs : List Prop} (ha : mVL (sameRen 0 js) args0 args = some qs) (hq : AllP qs)
    (hk : ∀ i j, js[i]? = some j → H.get j = (H0.get i).map (AObj.ren (newName js H.next)))
    (ho : ∀ i o, i < js.length → H0.get i = some o → ∃ j ps, js[i]? = some j ∧ mO (sameRen 0 js) o (.same j) (H.get j) = some ps ∧ AllP ps) : WF P B f args H fun v H' => Q v ∧ H' = H := by
  obtain ⟨ps, hm, hp⟩ := mS_small (H := H) hnd hn ht ho
  intro ρ w xs hr hx
  have hlt : ∀ j ∈ js, j < H.next := fun j hj => by
    obtain ⟨i, hi⟩ := List.getElem?_of_mem hj
    have hil : i < js.length := (List.getElem?_eq_some_iff.1 hi).1
    have hlive := List.all_eq_true.1 hl i (List.mem_range.2 (by omega))
    obtain ⟨o, ho'⟩ := Option.isSome_iff_exists.1 hlive
    have := hk i j hi
    rw [ho'] at this
    exact hr.old this
  exact WF.look ((WF.frame h js hm hp ha hq hn hl hnd).mono fun v H' ⟨v0, H0', ⟨k1, k2, k3⟩, e1, e2⟩ => by
    rw [ren_closed _ k2] at e1
    subst e1; subst e2
    exact ⟨graft_keep hnd hlt hn hk k1, k2, k3⟩) ρ w xs hr hx

/-- The same, with a row that is new. -/
theorem WF.lookNewAt {r : RTy} {R : List r.den → Prop} (h : WF P B f args0 H0 fun v H' => (∀ k, k < H0.next → H'.get k = H0.get k) ∧ ∃ j rows ty, H0.next ≤ j ∧ j < H'.next ∧ v = .sw j ∧ H'.get j = some (.seq r rows ty) ∧ R rows) (js : List Nat) (hnd : js.Nodup) (hn : H0.next = js.length) (hl : allLive H0 = true)
    (ht : T.allK (fun i => Nat.blt i H0.next) H0.t = true) {qs : List Prop} (ha : mVL (sameRen 0 js) args0 args = some qs) (hq : AllP qs)
    (hk : ∀ i j, js[i]? = some j → H.get j = (H0.get i).map (AObj.ren (newName js H.next)))
    (ho : ∀ i o, i < js.length → H0.get i = some o → ∃ j ps, js[i]? = some j ∧ mO (sameRen 0 js) o (.same j) (H.get j) = some ps ∧ AllP ps) : WF P B f args H fun v H' => ∃ rows, R rows ∧ v = .sw H.next ∧ H' = H.alloc (.seq r rows none) := by
  obtain ⟨ps, hm, hp⟩ := mS_small (H := H) hnd hn ht ho
  intro ρ w xs hr hx
  have hlt : ∀ j ∈ js, j < H.next := fun j hj => by
    obtain ⟨i, hi⟩ := List.getElem?_of_mem hj
    have hil : i < js.length := (List.getElem?_eq_some_iff.1 hi).1
    have hlive := List.all_eq_true.1 hl i (List.mem_range.2 (by omega))
    obtain ⟨o, ho'⟩ := Option.isSome_iff_exists.1 hlive
    have := hk i j hi
    rw [ho'] at this
    exact hr.old this
  refine WF.lookNew ((WF.frame h js hm hp ha hq hn hl hnd).mono fun v H' ⟨v0, H0', ⟨k1, j, rows, ty, k2, k2b, k3, k4, k5⟩, e1, e2⟩ => ?_) ρ w xs hr hx
  subst k3; subst e1; subst e2
  refine ⟨graft_keep hnd hlt hn hk k1, newName js H.next j, rows, ty, ?_, by simp only [AV.ren], ?_, k5⟩
  · simp only [newName, List.getElem?_eq_none (show js.length ≤ j by omega)]; omega
  · have hinj : ∀ i i', newName js H.next i = newName js H.next i' → i = i' := fun i i' hgg => by
      simp only [newName] at hgg
      cases h1 : js[i]? with
      | none =>
        cases h2 : js[i']? with
        | none =>
          rw [h1, h2] at hgg
          have a1 := List.getElem?_eq_none_iff.1 h1
          have a2 := List.getElem?_eq_none_iff.1 h2
          simp only at hgg; omega
        | some j' => rw [h1, h2] at hgg; have := hlt j' (List.mem_of_getElem? h2); simp only at hgg; omega
      | some j =>
        cases h2 : js[i']? with
        | none => rw [h1, h2] at hgg; have := hlt j (List.mem_of_getElem? h1); simp only at hgg; omega
        | some j' =>
          rw [h1, h2] at hgg
          simp only at hgg
          subst hgg
          have hi : i < js.length := (List.getElem?_eq_some_iff.1 h1).1
          exact (List.getElem?_inj hi hnd).1 (h1.trans h2.symm)
    obtain ⟨g1, g2⟩ := graftGo_get (g := newName js H.next) H0' (List.range H0'.next) H.t List.nodup_range (fun i _ j _ hij => hinj i j hij) (newName js H.next j)
    have e := g1 j (List.mem_range.2 k2b) rfl
    rw [k4] at e
    exact e
end
end
end Go.AM
namespace Go.AM
/-- A block that names no other block. -/
def AObj.plain : AObj → Bool
  | .cells _ _ cs _ => closedL cs
  | .seq _ _ _ => true
  | .smap _ _ _ _ _ _ _ => true
  | _ => false

theorem closedL_at : ∀ {cs : List AV} {j : Nat} {v : AV}, closedL cs = true → cs[j]? = some v → v.closed = true
  | [], _, _, _, h => by simp at h
  | _ :: _, 0, _, hc, h => by
    simp only [closedL, Bool.and_eq_true] at hc
    simp at h; rw [← h]; exact hc.1
  | _ :: cs, j + 1, _, hc, h => by
    simp only [closedL, Bool.and_eq_true] at hc
    exact closedL_at hc.2 (by simpa using h)

theorem ORel.plain {ρ ρ' : Env} {B : Nat} {w' : World} {e : At} {o : AObj} (hp : o.plain = true) (ho : ORel ρ' B w' e o) : ORel (ρ.back ρ') B w' e o := by
  cases o with
  | cells ro es cs oty =>
    obtain ⟨h0, h1, arr, ty, fz, h2, h3, h4, h5⟩ := ho
    refine ⟨h0, h1, arr, ty, fz, h2, h3, fun j v hj => ?_, h5⟩
    obtain ⟨x, hx, hr⟩ := h4 j v hj
    exact ⟨x, hx, Rel.closed (ρ := ρ') (ρ' := ρ.back ρ') (fun _ _ h => h) (closedL_at hp hj) hr⟩
  | seq r rows oty => exact ho
  | smap ka va kr vr m bs clk => exact ho
  | _ => cases hp

section
variable {P : Program} {B : Nat} {f : FuncId} {args : List AV} {H : Heap}

/-- The state of before, but for plain blocks that were turned, at the world of now. -/
theorem HR.turnP {ρ ρ' : Env} {H' H1 : Heap} {w w' : World} (hr : HR B ρ H w) (hr' : HR B ρ' H' w') (he : Ext B ρ w ρ' w') (hn : H1.next = H.next) (hk : ∀ k o, H1.get k = some o → H'.get k = some o ∧ ∃ o0, H.get k = some o0 ∧ (o = o0 ∨ o.plain = true)) : HR B (ρ.back ρ') H1 w' where
  next := by rw [hn]; exact hr.next
  base := hr'.base
  bnd b hb := by
    have := hr.bnd b hb
    have := he.size
    omega
  obj k o hko := by
    obtain ⟨hko', o0, ho0, hpl⟩ := hk k o hko
    obtain ⟨e0, he0, h0⟩ := hr.obj k o0 ho0
    obtain ⟨e, he1, h1⟩ := hr'.obj k o hko'
    have := back_get he.pre he0 he1
    rw [he0] at this
    cases this
    rcases hpl with rfl | hpl
    · exact ⟨e0, he0, h0.back he.pre h1⟩
    · exact ⟨e0, he0, ORel.plain hpl h1⟩
  inj i j o o' e e' hi hj hei hej h1 h2 hb hij := by
    obtain ⟨_, o0, ho0, _⟩ := hk i o hi
    obtain ⟨_, o0', ho0', _⟩ := hk j o' hj
    exact hr.inj i j o0 o0' e e' ho0 ho0' hei hej h1 h2 hb hij
  fz := hr'.fz
  fzo k o e c hko hek hnb hc := hr'.fzo k o e c (hk k o hko).1 (pre_get he.pre.ats hek) hnb hc

/-- A function that turns plain blocks in place and makes none that is seen. -/
theorem WF.turnP {Q : AV → Heap → Prop} (h : WF P B f args H fun v H' => ∃ H1 : Heap, H1.next = H.next ∧ (∀ k o, H1.get k = some o → H'.get k = some o ∧ ∃ o0, H.get k = some o0 ∧ (o = o0 ∨ o.plain = true)) ∧ v.closed = true ∧ Q v H1) : WF P B f args H Q := by
  intro ρ w xs hr hx
  refine (h ρ w xs hr hx).mono ?_
  rintro e w' ⟨v, x, H', ρ', rfl, ⟨H1, h1, h2, h3, h4⟩, he, hr', hv⟩
  exact ⟨v, x, H1, ρ.back ρ', rfl, h4, he.back, hr.turnP hr' he h1 h2, Rel.closed (ρ := ρ') (ρ' := ρ.back ρ') (fun _ _ h => h) h3 hv⟩

theorem newName_inj {js : List Nat} {n : Nat} (hnd : js.Nodup) (hlt : ∀ j ∈ js, j < n) : ∀ i i', newName js n i = newName js n i' → i = i' := fun i i' hgg => by
  simp only [newName] at hgg
  cases h1 : js[i]? with
  | none =>
    cases h2 : js[i']? with
    | none =>
      rw [h1, h2] at hgg
      have a1 := List.getElem?_eq_none_iff.1 h1
      have a2 := List.getElem?_eq_none_iff.1 h2
      simp only at hgg; omega
    | some j' => rw [h1, h2] at hgg; have := hlt j' (List.mem_of_getElem? h2); simp only at hgg; omega
  | some j =>
    cases h2 : js[i']? with
    | none => rw [h1, h2] at hgg; have := hlt j (List.mem_of_getElem? h1); simp only at hgg; omega
    | some j' =>
      rw [h1, h2] at hgg
      simp only at hgg
      subst hgg
      have hi : i < js.length := (List.getElem?_eq_some_iff.1 h1).1
      exact (List.getElem?_inj hi hnd).1 (h1.trans h2.symm)

theorem graft_at {js : List Nat} {H H0' : Heap} (hnd : js.Nodup) (hlt : ∀ j ∈ js, j < H.next) :
    (∀ i j, js[i]? = some j → i < H0'.next → (graft js H H0').get j = (H0'.get i).map (AObj.ren (newName js H.next))) ∧ ∀ k, k < H.next → k ∉ js → (graft js H H0').get k = H.get k := by
  have hg := fun k => graftGo_get (g := newName js H.next) H0' (List.range H0'.next) H.t List.nodup_range (fun i _ j _ hij => newName_inj hnd hlt i j hij) k
  refine ⟨fun i j hj hi => ?_, fun k hk hkj => ?_⟩
  · exact (hg j).1 i (List.mem_range.2 hi) (by simp only [newName, hj])
  · refine (hg k).2 fun i hi hik => ?_
    cases hj : js[i]? with
    | none => simp only [newName, hj] at hik; omega
    | some j =>
      have : j = k := by simpa only [newName, hj] using hik
      subst this
      exact hkj (List.mem_of_getElem? hj)

theorem ren_plain (g : Nat → Nat) {o : AObj} (h : o.plain = true) : o.ren g = o := by
  cases o with
  | cells ro es cs oty => simp only [AObj.ren, renL_closed g (show closedL cs = true from h)]
  | seq r rows oty => rfl
  | smap ka va kr vr m bs clk => rfl
  | _ => cases h

/-- A call that turns plain blocks in place, proved at a small heap. -/
theorem WF.turnAt {args0 : List AV} {H0 : Heap} {R : AV → (Nat → Option AObj) → Prop} (h : WF P B f args0 H0 fun v H' => H0.next ≤ H'.next ∧ ∃ ch : Nat → Option AObj, (∀ k, k < H0.next → H'.get k = (match ch k with | none => H0.get k | some o => some o)) ∧ (∀ k o, ch k = some o → o.plain = true) ∧ v.closed = true ∧ R v ch)
    (js : List Nat) (hnd : js.Nodup) (hn : H0.next = js.length) (hl : allLive H0 = true)
    (ht : T.allK (fun i => Nat.blt i H0.next) H0.t = true) {qs : List Prop} (ha : mVL (sameRen 0 js) args0 args = some qs) (hq : AllP qs)
    (hk : ∀ i j, js[i]? = some j → H.get j = (H0.get i).map (AObj.ren (newName js H.next)))
    (ho : ∀ i o, i < js.length → H0.get i = some o → ∃ j ps, js[i]? = some j ∧ mO (sameRen 0 js) o (.same j) (H.get j) = some ps ∧ AllP ps)
    (mk : (Nat → Option AObj) → Heap)
    (hmk : ∀ ch, (mk ch).next = H.next ∧ (∀ k, k ∉ js → (mk ch).get k = H.get k) ∧ ∀ i j, js[i]? = some j → (mk ch).get j = (match ch i with | none => H.get j | some o => some o)) :
    WF P B f args H fun v H' => ∃ ch, R v ch ∧ H' = mk ch := by
  obtain ⟨ps, hm, hp⟩ := mS_small (H := H) hnd hn ht ho
  intro ρ w xs hr hx
  have hlt : ∀ j ∈ js, j < H.next := fun j hj => by
    obtain ⟨i, hi⟩ := List.getElem?_of_mem hj
    have hil : i < js.length := (List.getElem?_eq_some_iff.1 hi).1
    have hlive := List.all_eq_true.1 hl i (List.mem_range.2 (by omega))
    obtain ⟨o, ho'⟩ := Option.isSome_iff_exists.1 hlive
    have := hk i j hi
    rw [ho'] at this
    exact hr.old this
  have hold : ∀ k o, H.get k = some o → k < H.next := fun k o h => hr.old h
  exact WF.turnP (Q := fun v H' => ∃ ch, R v ch ∧ H' = mk ch) ((WF.frame h js hm hp ha hq hn hl hnd).mono fun v H' ⟨v0, H0', ⟨k0, ch, k1, k2, k3, k4⟩, e1, e2⟩ => by
    rw [ren_closed _ k3] at e1
    subst e1; subst e2
    obtain ⟨m1, m2, m3⟩ := hmk ch
    have hg := graft_at (H := H) (H0' := H0') hnd hlt
    refine ⟨mk ch, m1, fun k o hko => ?_, k3, ch, k4, rfl⟩
    by_cases hkj : k ∈ js
    · obtain ⟨i, hi⟩ := List.getElem?_of_mem hkj
      have hil : i < js.length := (List.getElem?_eq_some_iff.1 hi).1
      rw [m3 i k hi] at hko
      have e := hg.1 i k hi (by omega)
      rw [k1 i (by omega)] at e
      cases hc : ch i with
      | none =>
        rw [hc] at hko e
        simp only at hko e
        rw [e, ← hk i k hi]
        exact ⟨hko, o, hko, .inl rfl⟩
      | some o' =>
        rw [hc] at hko e
        simp only [Option.some.injEq] at hko
        subst hko
        have hlive := List.all_eq_true.1 hl i (List.mem_range.2 (by omega))
        obtain ⟨o0, ho0⟩ := Option.isSome_iff_exists.1 hlive
        have h0 := hk i k hi
        rw [ho0] at h0
        exact ⟨by rw [e]; simp [ren_plain _ (k2 i o' hc)], _, h0, .inr (k2 i o' hc)⟩
    · rw [m2 k hkj] at hko
      exact ⟨by rw [hg.2 k (hold k o hko) hkj]; exact hko, o, hko, .inl rfl⟩) ρ w xs hr hx
end
end Go.AM
set_option linter.unusedVariables false
namespace Go.AM
noncomputable section

abbrev SC := FuncId → Bool → Nat → Code → Fr → Heap → Option (XT × Fr × Heap)

section
variable (P : Program) (S : SumP) (last : Nat) (rc : SC)

/-- The operations of a region that defers calls (calls only of what is known). -/
def sOD (n : Nat) (ops : Array Oper) : List Nat → Fr → Heap → List DC → Option (XT × Fr × Heap × List DC)
  | [], fr, H, D => some (.nor, fr, H, D)
  | i :: rest, fr, H, D => match ops[i]? with
    | none => none
    | some o => match aWant ops fr o with
      | none => none
      | some false => match aput n fr o.dst (.tup []) with
        | none => none
        | some fr' => sOD n ops rest fr' H D
      | some true => match o.op with
        | .defer c => match c.callee with
          | .value x => match aeval fr x with
            | none => none
            | some fv => match evalL fr c.args.toList with
              | none => none
              | some args => match aCallV P fv args with
                | some (.call f as) => match aput n fr o.dst (.tup []) with
                  | none => none
                  | some fr' => sOD n ops rest fr' H ((f, as) :: D)
                | _ => none
          | _ => none
        | _ => match aopC P fr H o with
          | some (_, .val v H') => match aput n fr o.dst v with
            | none => none
            | some fr' => sOD n ops rest fr' H' D
          | _ => none

def sD (f : FuncId) (n : Nat) : Code → Fr → Heap → List DC → Option (XT × Fr × Heap × List DC)
  | .seq x y, fr, H, D => match sD f n x fr H D with
    | some (.nor, fr', H', D') => forceS fr' H' fun fr' H' => sD f n y fr' H' D'
    | r => r
  | .region id ops d, fr, H, D => bif !d && ops.toList.any isDefer then sOD P n ops (List.range ops.size) fr H D else match rc f false n (.region id ops d) fr H with
    | some (x, fr', H') => some (x, fr', H', D)
    | none => none
  | c, fr, H, D => match rc f false n c fr H with
    | some (x, fr', H') => some (x, fr', H', D)
    | none => none

def sLeave : List DC → Heap → Option Heap
  | [], H => some H
  | d :: D, H => match P.funcs[d.1]? with
    | none => none
    | some fn => match fn.body with
      | none => none
      | some c => match rc d.1 false (d.2.length + (fn.ntmps - d.2.length)) c (initFr d.2 0 .nil) H with
        | none => none
        | some (_, _, H') => sLeave D H'

def sF (f : FuncId) (args : List AV) (H : Heap) : Option (AV × Heap) :=
  let go : Option (AV × Heap) := match P.funcs[f]? with
    | none => none
    | some fn => match fn.body with
      | none => none
      | some c => bif hasDefer c then (match sD P rc f (args.length + (fn.ntmps - args.length)) c (initFr args 0 .nil) H [] with
          | none => none
          | some (.ex _, _, _, _) => none
          | some (_, fr', H', D) => match sLeave P rc D H' with
            | none => none
            | some H2 => (ares P fn fr' H2).map fun v => (v, H2))
        else match rc f false (args.length + (fn.ntmps - args.length)) c (initFr args 0 .nil) H with
        | none => none
        | some (.ex _, _, _) => none
        | some (_, fr', H') => (ares P fn fr' H').map fun v => (v, H')
  match S f args H with
  | some (.val v) => some (v, H)
  | some (.fn _ v H') => some (v, H')
  | some (.gen _) => none
  | some .path => go
  | none => go

def sY (l : Nat) (args : List AV) (H : Heap) : Option (Bool × Heap) :=
  match H.get l with
  | some (.loop _ _ f fr0 nt ps as bd) => match setParams nt fr0 ps args with
    | none => none
    | some fr1 => match rc f false nt as fr1 H with
      | some (.nor, fr2, H2) => match H2.get l with
        | some (.loop .ready pd fn fr0 nt' ps as bd') => match rc f false nt bd fr2 (H2.set l (.loop .busy pd fn fr0 nt' ps as bd')) with
          | some (x, fr3, H3) => match H3.get l with
            | some (.loop _ _ fn fr0 nt ps as bd) => some (x.isNor, H3.set l (.loop (bif x.isNor then .ready else .done) (jumpOf x) fn fr0 nt ps as bd))
            | _ => none
          | none => none
        | _ => none
      | _ => none
  | _ => none

/-- One of several: 0: the first; 1: the last; 2: only if there is no other. -/
def pickL {α : Type} : List α → Option α
  | [] => none
  | a :: l => match l with
    | [] => some a
    | l => match last with
      | 0 => some a
      | 1 => pickL l
      | _ => none

def sPut (g : Bool) (n : Nat) (fr : Fr) (dst : Option Tmp) (v : AV) (H : Heap) : Option (Fr × Heap) :=
  match v with
  | .sB b => (aput n fr dst (bif g then (match b with
    | true => .bool true
    | false => .bool false) else .sB b)).map fun f => (f, H)
  | v => (aput n fr dst v).map fun f => (f, H)

/-- A map told entry by entry, iterated in one order: 0: from the first on; 1: from the last on. -/
def sNext (fr : Fr) (H : Heap) (it : Operand) : Option (AV × Heap) := match aeval fr it with
  | some (.ptr r 0) => match H.get r with
    | some (.cmIter i since pre now stepped) => match pre, H.get i with
      | [], some (.map es clk) => match es.filter fun e => !natMem e.born now with
        | [] => some (.tup [.bool false], H)
        | e :: l => match (match l, last with
            | [], _ => some e
            | _, 0 => some e
            | l, 1 => pickL 1 l
            | _, _ => none) with
          | some e => some (.tup [.bool true, e.key, e.val], H.set r (.cmIter i since [] (now ++ [e.born]) clk))
          | none => none
      | _, _ => none
    | _ => none
  | _ => none

def sOp (n : Nat) (ops : Array Oper) (o : Oper) (fr : Fr) (H : Heap) : Option (Fr × Heap) :=
  match aWant ops fr o with
  | none => none
  | some false => (aput n fr o.dst (.tup [])).map fun f => (f, H)
  | some true => match aopC P fr H o with
    | none => none
    | some (_, r) => match r with
      | .val v H' => sPut (usedG ops o.dst) n fr o.dst v H'
      | .opts l => match pickL last l with
        | some q => (aput n fr o.dst q.1).map fun f => (f, q.2)
        | none => none
      | .fams _ => match o.op with
        | .next it false => match sNext last fr H it with
          | some q => (aput n fr o.dst q.1).map fun f => (f, q.2)
          | none => none
        | _ => none
      | .call f args => match sF P S rc f args H with
        | some (v, H') => sPut (usedG ops o.dst) n fr o.dst v H'
        | none => none
      | .yield l args => match sY rc l args H with
        | some (b, H') => (aput n fr o.dst (.bool b)).map fun f => (f, H')
        | none => none

def sO (n : Nat) (ops : Array Oper) : List Nat → Fr → Heap → Option (Fr × Heap)
  | [], fr, H => some (fr, H)
  | i :: rest, fr, H => match ops[i]? with
    | none => none
    | some o => match sOp P S last rc n ops o fr H with
      | none => none
      | some (fr', H') => sO n ops rest fr' H'

def sPl (n : Nat) (ops : Array Oper) : Pl → Fr → Heap → Option (Fr × Heap)
  | .done, fr, H => some (fr, H)
  | .ro i rest, fr, H => match ops[i]? with
    | none => none
    | some o => match roX P ops fr H o with
      | none => none
      | some (_, v) => match sPut (usedG ops o.dst) n fr o.dst v H with
        | none => none
        | some (fr', H') => sPl n ops rest fr' H'
  | .loud i _ rest, fr, H => match ops[i]? with
    | none => none
    | some o => match sOp P S last rc n ops o fr H with
      | none => none
      | some (fr', H') => sPl n ops rest fr' H'
  | .both a _, fr, H => match last with
    | 2 => none
    | _ => sPl n ops a fr H

def sR (f0 : FuncId) (n : Nat) (g : Operand) (ps : Array Tmp) (as bd : Code) (fr : Fr) (H : Heap) : Option (XT × Fr × Heap) :=
  match aeval fr g with
  | none => none
  | some gv => match aCallV P gv [.yld H.next] with
    | some (.call f args) => match sF P S rc f args (H.alloc (.loop .ready none f0 fr n ps.toList as bd)) with
      | some (_, H2) => match H2.get H.next with
        | some (.loop st pd fn fr0 nt ps as bd) => match pd with
          | none => some (.nor, fr, H2.set H.next (.loop .exhausted pd fn fr0 nt ps as bd))
          | some c => rc f0 false n c fr (H2.set H.next (.loop .exhausted pd fn fr0 nt ps as bd))
        | _ => none
      | none => none
    | _ => none

def sStep : SC := fun f begun n c fr H =>
  match begun with
  | true => match rc f false n c fr H with
    | some (.nor, fr', H') => forceS fr' H' fun fr' H' => rc f true n c fr' H'
    | r => r
  | false => match c with
    | .skip => some (.nor, fr, H)
    | .label _ => some (.nor, fr, H)
    | .exit id => some (.ex id, fr, H)
    | .ret => some (.ret, fr, H)
    | .seq x y => match rc f false n x fr H with
      | some (.nor, fr', H') => forceS fr' H' fun fr' H' => rc f false n y fr' H'
      | r => r
    | .cond x c d => match aeval fr x with
      | some (.bool t) => rc f false n (bif t then c else d) fr H
      | some (.sB b) => match b with
        | true => rc f false n c fr H
        | false => rc f false n d fr H
      | _ => none
    | .block id c => match rc f false n c fr H with
      | some (.ex id', fr', H') => some (bif Nat.beq id' id then .nor else .ex id', fr', H')
      | r => r
    | .loop c => match rc f false n c fr H with
      | some (.nor, fr', H') => forceS fr' H' fun fr' H' => rc f true n c fr' H'
      | r => r
    | .region _ ops false => (sO P S last rc n ops (List.range ops.size) fr H).map fun p => (.nor, p.1, p.2)
    | .region _ ops true => match plan P ops with
      | none => none
      | some pl => (sPl P S last rc n ops pl fr H).map fun p => (.nor, p.1, p.2)
    | .rangeFunc g ps as bd => sR P S rc f n g ps as bd fr H
    | .scope c => rc f false n c fr H
    | _ => none
end

section
variable (P : Program) (S : SumP)
def sC (last : Nat) : Nat → SC
  | 0 => fun _ _ _ _ _ _ => none
  | k + 1 => sStep P S last (sC last k)

/-! ### Where roads part -/
def Pl.forky : Pl → Bool
  | .done => false
  | .ro _ r => r.forky
  | .loud _ _ r => r.forky
  | .both _ _ => true

/-- Does a region part, or call one of these? 1: it parts; 2: what it hands back hangs on an order. -/
def opsKind (fs : List Nat) (ops : Array Oper) : Bool := ops.toList.any fun o => match o.op with
  | .next _ isS => !isS
  | .call c => match c.callee with
    | .value (.func f) => natMem f fs
    | _ => false
  | _ => false

def partsC : Code → Bool
  | .region _ ops true => match plan P ops with
    | none => false
    | some p => p.forky
  | .seq a b => partsC a || partsC b
  | .cond _ a b => partsC a || partsC b
  | .block _ a => partsC a
  | .loop a => partsC a
  | .scope a => partsC a
  | .rangeFunc _ _ a b => partsC a || partsC b
  | _ => false

def walksC (fs : List Nat) : Code → Bool
  | .region _ ops _ => opsKind fs ops
  | .seq a b => walksC fs a || walksC fs b
  | .cond _ a b => walksC fs a || walksC fs b
  | .block _ a => walksC fs a
  | .loop a => walksC fs a
  | .scope a => walksC fs a
  | .rangeFunc _ _ a b => walksC fs a || walksC fs b
  | _ => false

def findX (k : Nat) : Code → Option Code
  | .seq a b => bif Nat.beq (seqKey a b) k then some a else match findX k a with
    | some r => some r
    | none => findX k b
  | .cond _ a b => match findX k a with
    | some r => some r
    | none => findX k b
  | .block _ a => findX k a
  | .loop a => findX k a
  | .scope a => findX k a
  | .rangeFunc _ _ a b => match findX k a with
    | some r => some r
    | none => findX k b
  | _ => none

structure One where
  n : Nat

mutual
/-- The names in a value, from K on. -/
def nmsV (K : Nat) : AV → List Nat
  | .ptr i _ => bif Nat.blt i K then [] else [i]
  | .slc i _ _ _ _ => bif Nat.blt i K then [] else [i]
  | .map i => bif Nat.blt i K then [] else [i]
  | .yld i => bif Nat.blt i K then [] else [i]
  | .eptr i _ _ => bif Nat.blt i K then [] else [i]
  | .sw i => bif Nat.blt i K then [] else [i]
  | .ss i _ _ => bif Nat.blt i K then [] else [i]
  | .fn _ a b => nmsL K a ++ nmsL K b
  | .iface _ v => nmsV K v
  | .agg cs => nmsL K cs
  | .tup cs => nmsL K cs
  | _ => []
def nmsL (K : Nat) : List AV → List Nat
  | [] => []
  | v :: vs => nmsV K v ++ nmsL K vs
end
def nmsE (K : Nat) : List Ent → List Nat
  | [] => []
  | e :: es => nmsV K e.key ++ (nmsV K e.val ++ nmsE K es)
def nmsF (K : Nat) : T AV → List Nat
  | .nil => []
  | .node l v r => nmsF K l ++ (match v with
    | some v => nmsV K v
    | none => []) ++ nmsF K r
def nmsO (K : Nat) : AObj → List Nat
  | .cells _ _ cs _ => nmsL K cs
  | .map es _ => nmsE K es
  | .mIter m _ _ _ => bif Nat.blt m K then [] else [m]
  | .cmIter m _ _ _ _ => bif Nat.blt m K then [] else [m]
  | .loop _ _ _ fr _ _ _ _ => nmsF K fr
  | _ => []
/-- The new names that old blocks tell of. -/
def oldNms (K : Nat) (g : Nat → Nat) : T AObj → List Nat
  | .nil => []
  | .node l v r => oldNms K (fun k => g (2 * k + 1)) l ++ (bif Nat.blt (g 0) K then (match v with
    | some o => nmsO K o
    | none => []) else []) ++ oldNms K (fun k => g (2 * k + 2)) r
def reachN (K : Nat) (H : T AObj) : Nat → List Nat → T Bool → T Bool
  | 0, _, seen => seen
  | _ + 1, [], seen => seen
  | f + 1, i :: l, seen => match seen.get i with
    | some _ => reachN K H f l seen
    | none => reachN K H f (match H.get i with
      | some o => nmsO K o ++ l
      | none => l) (seen.set i (some true))
def keepT (K : Nat) (seen : T Bool) (g : Nat → Nat) : T AObj → T AObj
  | .nil => .nil
  | .node l v r => .node (keepT K seen (fun k => g (2 * k + 1)) l) (bif Nat.blt (g 0) K then v else match seen.get (g 0) with
    | some _ => v
    | none => none) (keepT K seen (fun k => g (2 * k + 2)) r)
/-- Of the blocks from K on only those that somebody tells of. -/
def dropIt (K : Nat) (fl : List (Nat × AV)) (H : Heap) : T AObj := keepT K (reachN K H.t 100000 (nmsL K (fl.map (·.2)) ++ oldNms K id H.t) .nil) id H.t

def boxFl {β : Type 1} (l : List (Nat × AV)) (c : List (Nat × AV) → β) : β :=
  List.rec (motive := fun _ => (List (Nat × AV) → β) → β) (fun c => c []) (fun p _ ih c => natF p.1 fun t => p.2.forceF fun v => ih fun vs => c ((t, v) :: vs)) l c

def oneInv (fl : List (Nat × AV)) (H : Heap) : LInv := ⟨One, fun _ => True, fun _ _ _ => (fl, H), fun _ => 0⟩

def gst (fuel K : Nat) (w : Bool) (x : Code) (f : FuncId) (n : Nat) (fr : Fr) (H : Heap) : Option LInv :=
  match w with
  | false => match sC P S 0 fuel f false n x fr H with
    | some (.nor, fr1, H1) => forceS fr1 H1 fun fr1 H1 => boxFl (T.toL 1 0 fr1) fun fl => forceS .nil { t := dropIt K fl H1, next := H1.next } fun _ H1 => some (oneInv fl H1)
    | _ => none
  | true => match sC P S 2 fuel f false n x fr H with
    | some _ => none
    | none => match sC P S 0 fuel f false n x fr H with
      | some (.nor, fr1, H1) => match sC P S 1 fuel f false n x fr H with
        | some (.nor, fr2, H2) => forceS fr1 H1 fun fr1 H1 => boxFl ((T.toL 1 0 fr1).filter fun p => match fr2.get p.1 with
          | some v => AV.same p.2 v
          | none => false) fun fl => forceS .nil { t := dropIt K fl H1, next := H1.next } fun _ H1 => some (oneInv fl H1)
        | _ => none
      | _ => none

/-- The table for closed runs: cuts where roads part that the merging machine does not bring together. fs: functions whose calls part, too; top: the function that is run, K: the names ahead of it. -/
def autoL (fuel : Nat) (fs : List Nat) (top : FuncId) (K : Nat) : LTab := fun f k fr H =>
  bif Nat.ble 1000000 k && !(Nat.beq k noMrg) then (match P.funcs[f]? with
    | none => none
    | some fn => match fn.body with
      | none => none
      | some c => match findX k c with
        | none => none
        | some x => match walksC fs x with
          | true => gst P S fuel (bif Nat.beq f top then K else H.next) true x f fn.ntmps fr H
          | false => match partsC P x with
            | true => match dC P S 100 false fn.ntmps x fr H with
              | some _ => none
              | none => gst P S fuel (bif Nat.beq f top then K else H.next) false x f fn.ntmps fr H
            | false => none) else none

/-- The same; and in the top function a cut at each step: so blocks that nobody tells of any more are gone. -/
def autoT (fuel : Nat) (fs : List Nat) (top : FuncId) (K : Nat) : LTab := fun f k fr H =>
  bif Nat.beq f top && Nat.ble 1000000 k && !(Nat.beq k noMrg) then (match P.funcs[f]? with
    | none => none
    | some fn => match fn.body with
      | none => none
      | some c => match findX k c with
        | none => none
        | some x => gst P S fuel K false x f fn.ntmps fr H) else autoL P S fuel fs top K f k fr H
end
end
end Go.AM
set_option linter.unusedVariables false
namespace Go.AM
noncomputable section
section
variable {P : Program} {B : Nat} {f : FuncId} {args : List AV} {H : Heap}

theorem WF.absPost {Q : AV → Heap → Prop} (h : WF P B f args H fun v H' => ∃ v0 H0, Abs H.next (frOf [(0, v)]) H' (frOf [(0, v0)]) H0 ∧ Q v0 H0) : WF P B f args H Q := by
  intro ρ w xs hr hx
  refine (h ρ w xs hr hx).mono ?_
  rintro e w' ⟨v, x, H', ρ', rfl, ⟨v0, H0, ha, hq⟩, he, hr', hv⟩
  have hn : H.next = ρ.ats.length := hr.next
  have hk : H.next ≤ ρ'.ats.length := hn ▸ he.pre.ats.length_le
  have hf : FRel ρ' (frOf [(0, v)]) #[x] := by
    intro t u hu
    have := frOf_get _ _ _ hu
    rw [List.mem_singleton] at this
    cases this
    exact ⟨x, rfl, hv⟩
  obtain ⟨ρ2, g1, g2, g3⟩ := ha B ρ' w' #[x] hk hr' hf
  have g3 : ExtK H.next B ρ' w' ρ2 w' := g3
  have hE : ExtK H.next B ρ w ρ2 w' := (he.toK (Nat.le_of_eq hn)).trans g3
  rw [hn] at hE
  obtain ⟨y, hy, hry⟩ := g2 0 v0 rfl
  have : y = x := by simpa using hy.symm
  subst this
  exact ⟨v0, _, H0, ρ2, rfl, hq, ExtK.toExt hE, g1, hry⟩

theorem WF.told {v0 : AV} {H0 : Heap} (h : WF P B f args H fun v H' => vMs H.next ([(0, v0)], H0) (frOf [(0, v)]) H') : WF P B f args H fun v H' => v = v0 ∧ H' = H0 :=
  WF.absPost (h.mono fun v H' hm => by
    unfold vMs at hm
    split at hm
    · rename_i ps hs
      exact ⟨v0, H0, mS_sound hs (allP_of hm), rfl, rfl⟩
    · exact nomatch hm)

theorem WF.atH {H1 : Heap} {Q : AV → Heap → Prop} (ht : H.t = H1.t) (hn : H.next = H1.next) (h : WF P B f args H1 Q) : WF P B f args H Q := by
  intro ρ w xs hr hx
  refine h ρ w xs ?_ hx
  obtain ⟨t, next, d⟩ := H
  obtain ⟨t1, next1, d1⟩ := H1
  cases ht; cases hn
  exact ⟨hr.next, hr.base, hr.bnd, hr.obj, hr.inj, hr.fz, hr.fzo⟩
end

/-- A range loop's two pieces, by the body's first region. -/
def findRF (k : Nat) : Code → Option (Code × Code)
  | .seq a b => match findRF k a with
    | some r => some r
    | none => findRF k b
  | .cond _ a b => match findRF k a with
    | some r => some r
    | none => findRF k b
  | .block _ a => findRF k a
  | .loop a => findRF k a
  | .scope a => findRF k a
  | .rangeFunc _ _ a b => bif Nat.beq (codeKey b) k then some (a, b) else match findRF k a with
    | some r => some r
    | none => findRF k b
  | _ => none
def rfC (P : Program) (f : FuncId) (k : Nat) : Option (Code × Code) := match P.funcs[f]? with
  | none => none
  | some fn => match fn.body with
    | none => none
    | some c => findRF k c
def rfA (P : Program) (f : FuncId) (k : Nat) : Code := match rfC P f k with
  | some r => r.1
  | none => .skip
def rfB (P : Program) (f : FuncId) (k : Nat) : Code := match rfC P f k with
  | some r => r.2
  | none => .skip
/-- So often the same, ahead of a row. -/
def rp {α : Type} (n : Nat) (a : α) (l : List α) : List α := Nat.rec l (fun _ ih => a :: ih) n
/-- Bytes, by their numbers. -/
def u8s (l : List Nat) : List UInt8 := l.map UInt8.ofNat

/-- One more call that is known: by its function, its arguments, and what lies there. -/
def recS (S : SumP) (f0 : FuncId) (A : List AV) (H1 : Heap) (v : AV) (H2 : Heap) : SumP := fun f args H =>
  bif Nat.beq f f0 && Nat.beq H.next H1.next && AV.sameL args A then some (.fn (some (H.t = H1.t)) v H2) else S f args H

theorem recS_ok {P : Program} {B : Nat} {S : SumP} {f0 : FuncId} {A : List AV} {H1 H2 : Heap} {v : AV} (hS : SumPOk P B S) (h : WF P B f0 A H1 fun v' H' => v' = v ∧ H' = H2) : SumPOk P B (recS S f0 A H1 v H2) := by
  intro f args H s hs
  unfold recS at hs
  cases hb : Nat.beq f f0 && Nat.beq H.next H1.next && AV.sameL args A with
  | false => rw [hb] at hs; exact hS _ _ _ _ hs
  | true =>
    rw [hb] at hs
    cases hs
    simp only [Bool.and_eq_true] at hb
    obtain ⟨⟨h1, h2⟩, h3⟩ := hb
    have h1 := Nat.eq_of_beq_eq_true h1
    have h3 := AV.sameL_eq h3
    subst h1; subst h3
    intro ht
    exact WF.atH ht (Nat.eq_of_beq_eq_true h2) h

/-- A call played out; of the blocks that are new only those that somebody tells of; written out. -/
def simOf (P : Program) (S : SumP) (fuel : Nat) (f : FuncId) (A : List AV) (H : Heap) : Option (AV × Heap) :=
  match sF P S (sC P S 0 fuel) f A H with
  | none => none
  | some (v, H') => forceS .nil { t := dropIt H.next [(0, v)] H', next := H'.next } fun _ H' => v.forceF fun v => some (v, H')

/-- What is owed of a call that is to be told so. -/
def vTold (P : Program) (S : SumP) (L : LTab) (k : Nat) (f : FuncId) (A : List AV) (H1 : Heap) (v : AV) (H2 : Heap) : Prop := vTop P S L k f A H1 fun v' H' => vMs H1.next ([(0, v)], H2) (frOf [(0, v')]) H'

theorem WF.ofTold {P : Program} {B : Nat} {S : SumP} {L : LTab} {k : Nat} {f : FuncId} {A : List AV} {H1 H2 : Heap} {v : AV} (h : Owe (vTold P S L k f A H1 v H2)) (hm : P.follows .mixedOrders = true) (hS : SumPOk P B S) : WF P B f A H1 fun v' H' => v' = v ∧ H' = H2 :=
  WF.told (WF.of_vc hm hS h.h)
end
end Go.AM
set_option linter.unusedSimpArgs false
set_option linter.unusedVariables false
namespace Go.AM
open Go.RowKit
section
variable {P : Program} {B : Nat} {f : FuncId} {args : List AV} {H : Heap}
/-- Plain blocks turned in place, and either nothing else that is seen, or a new row. -/
theorem WF.turnNew {r : RTy} {Q : AV → Heap → Prop} (h : WF P B f args H fun v H' => ∃ H1 : Heap, H1.next = H.next ∧ (∀ k o, H1.get k = some o → H'.get k = some o ∧ ∃ o0, H.get k = some o0 ∧ (o = o0 ∨ o.plain = true)) ∧
      ((v.closed = true ∧ Q v H1) ∨ ∃ j rows ty c, H.next ≤ j ∧ c.closed = true ∧ v = .tup [.sw j, c] ∧ H'.get j = some (.seq r rows ty) ∧ Q (.tup [.sw H.next, c]) (H1.alloc (.seq r rows none)))) :
    WF P B f args H Q := by
  intro ρ w xs hr hx
  refine (h ρ w xs hr hx).mono ?_
  rintro en w' ⟨v, x, H', ρ', rfl, ⟨H1, hn1, h1, hway⟩, he, hr', hv⟩
  rcases hway with ⟨h3, h4⟩ | ⟨j, rows, ty, c, hj, hc0, rfl, hjo, hR⟩
  · exact ⟨v, x, H1, ρ.back ρ', rfl, h4, he.back, hr.turnP hr' he hn1 h1, Rel.closed (ρ := ρ') (ρ' := ρ.back ρ') (fun _ _ h => h) h3 hv⟩
  have hb := hr.turnP hr' he hn1 h1
  obtain ⟨e, hej, hO⟩ := hr'.obj j _ hjo
  have hO' : ORel (ρ.back ρ') B w' e (.seq r rows none) := by
    obtain ⟨k0, k1, k2⟩ := hO
    refine ⟨k0, k1, k2.imp id fun ⟨g1, arr, t, fz, g2, g3, g4, g5, g6, _⟩ => ⟨g1, arr, t, fz, g2, g3, g4, g5, g6, fun t h => by cases h⟩⟩
  have hB : e.nb = false → B ≤ e.b := fun hn => by
    obtain ⟨_, _, h | ⟨_, arr, t, fz, _, _, _, hB, _⟩⟩ := hO
    · rw [hn] at h; cases h.1
    · exact hB
  have hold : ∀ k o, H1.get k = some o → k < ρ.ats.length := fun k o h => by
    obtain ⟨_, o0, h0, _⟩ := h1 k o h
    rw [← hr.next]; exact hr.old h0
  have hne : ∀ k o ek, H1.get k = some o → ρ.ats[k]? = some ek → ek.nb = false → e.nb = false → ek.b ≠ e.b := fun k o ek hk hek h2 h3 hbb => by
    have hkl : k < H.next := by rw [hr.next]; exact hold k o hk
    have := hr'.inj j k _ o e ek hjo (h1 k o hk).1 hej (pre_get he.pre.ats hek) h3 h2 hbb.symm (by omega)
    have := hB h3
    omega
  have hget : ∀ k ek, ((ρ.back ρ').add e).ats[k]? = some ek → k < ρ.ats.length → ρ.ats[k]? = some ek := fun k ek h hk => by
    have h : (ρ.ats ++ [e])[k]? = some ek := h
    rw [List.getElem?_append_left hk] at h; exact h
  have hnew : ∀ ek, ((ρ.back ρ').add e).ats[H.next]? = some ek → ek = e := fun ek h => by
    rw [hr.next] at h
    have h : (ρ.ats ++ [e])[ρ.ats.length]? = some ek := h
    rw [List.getElem?_append_right (Nat.le_refl _), Nat.sub_self] at h
    simpa using h.symm
  have hlast : (ρ.ats ++ [e])[ρ.ats.length]? = some e := by rw [List.getElem?_append_right (Nat.le_refl _), Nat.sub_self]; rfl
  refine ⟨.tup [.sw H.next, c], x, H1.alloc (.seq r rows none), (ρ.back ρ').add e, rfl, hR, ?_, ?_, ?_⟩
  · refine ⟨⟨List.prefix_append _ _, he.pre.fz⟩, he.os, he.tape, he.output, he.size, he.below, he.other, fun b hbk => ?_, fun b c hc => he.fzn b c hc⟩
    rcases Env.blk_add.1 hbk with g | ⟨g1, g2⟩
    · exact .inl g
    · subst g2; exact he.new _ (Env.blk_of hej g1)
  · refine ⟨?_, hb.base, fun b hbk => ?_, fun k o hk => ?_, fun k k' o o' e1 e2 hk hk' g1 g2 n1 n2 hbb hne' => ?_, hb.fz, fun k o e1 c hk g1 n1 hc => ?_⟩
    · simp only [Heap.next_alloc, Env.add_ats, List.length_append, List.length_singleton, hn1, hr.next]; rfl
    · rcases Env.blk_add.1 hbk with g | ⟨g1, g2⟩
      · exact hb.bnd b g
      · subst g2; exact hr'.bnd _ (Env.blk_of hej g1)
    · rw [Heap.get_alloc, hn1] at hk
      split at hk
      · rename_i hkn
        cases hk
        refine ⟨e, ?_, hO'.mono (Env.le_add _ _) fun _ => rfl⟩
        rw [hkn, hr.next]; exact hlast
      · obtain ⟨e1, g1, g2⟩ := hb.obj k o hk
        exact ⟨e1, pre_get (List.prefix_append _ _) g1, g2.mono (Env.le_add _ _) fun _ => rfl⟩
    · rw [Heap.get_alloc, hn1] at hk hk'
      split at hk
      · rename_i hkn
        subst hkn
        have := hnew e1 g1; subst this
        rw [if_neg fun h => hne' h.symm] at hk'
        exact (hne k' o' e2 hk' (hget k' e2 g2 (hold k' o' hk')) n2 n1 hbb.symm).elim
      · split at hk'
        · rename_i hkn
          subst hkn
          have := hnew e2 g2; subst this
          exact (hne k o e1 hk (hget k e1 g1 (hold k o hk)) n1 n2 hbb).elim
        · exact hb.inj k k' o o' e1 e2 hk hk' (hget k e1 g1 (hold k o hk)) (hget k' e2 g2 (hold k' o' hk')) n1 n2 hbb hne'
    · rw [Heap.get_alloc, hn1] at hk
      split at hk
      · rename_i hkn
        subst hkn
        have := hnew e1 g1; subst this
        exact hr'.fzo j _ e1 c hjo hej n1 hc
      · exact hb.fzo k o e1 c hk (hget k e1 g1 (hold k o hk)) n1 hc
  · simp only [Rel, RelL] at hv ⊢
    obtain ⟨ys, hys, y, l, hl, ⟨e', base, c', g1, g2⟩, hv2⟩ := hv
    rw [hej] at g1; cases g1
    obtain ⟨z, l', hl', hz, hn⟩ := hv2
    refine ⟨ys, hys, y, l, hl, ⟨e, base, c', ?_, g2⟩, z, l', hl', Rel.closed (ρ := ρ') (ρ' := (ρ.back ρ').add e) (fun _ _ h => h) hc0 hz, hn⟩
    rw [hr.next]; exact hlast

/-- The same, proved at a small heap. -/
theorem WF.turnNewAt {r : RTy} {args0 : List AV} {H0 : Heap} {R0 : AV → (Nat → Option AObj) → Prop} {R1 : AV → List r.den → (Nat → Option AObj) → Prop}
    (h : WF P B f args0 H0 fun v H' => H0.next ≤ H'.next ∧ ∃ ch : Nat → Option AObj, (∀ k, k < H0.next → H'.get k = (match ch k with | none => H0.get k | some o => some o)) ∧ (∀ k o, ch k = some o → o.plain = true) ∧
      ((v.closed = true ∧ R0 v ch) ∨ ∃ j rows ty c, H0.next ≤ j ∧ j < H'.next ∧ c.closed = true ∧ v = .tup [.sw j, c] ∧ H'.get j = some (.seq r rows ty) ∧ R1 c rows ch))
    (js : List Nat) (hnd : js.Nodup) (hn : H0.next = js.length) (hl : allLive H0 = true)
    (ht : T.allK (fun i => Nat.blt i H0.next) H0.t = true) {qs : List Prop} (ha : mVL (sameRen 0 js) args0 args = some qs) (hq : AllP qs)
    (hk : ∀ i j, js[i]? = some j → H.get j = (H0.get i).map (AObj.ren (newName js H.next)))
    (ho : ∀ i o, i < js.length → H0.get i = some o → ∃ j ps, js[i]? = some j ∧ mO (sameRen 0 js) o (.same j) (H.get j) = some ps ∧ AllP ps)
    (mk : (Nat → Option AObj) → Heap)
    (hmk : ∀ ch, (mk ch).next = H.next ∧ (∀ k, k ∉ js → (mk ch).get k = H.get k) ∧ ∀ i j, js[i]? = some j → (mk ch).get j = (match ch i with | none => H.get j | some o => some o)) :
    WF P B f args H fun v H' => (∃ ch, R0 v ch ∧ H' = mk ch) ∨ ∃ ch c rows, R1 c rows ch ∧ v = .tup [.sw H.next, c] ∧ H' = (mk ch).alloc (.seq r rows none) := by
  obtain ⟨ps, hm, hp⟩ := mS_small (H := H) hnd hn ht ho
  intro ρ w xs hr hx
  have hlt : ∀ j ∈ js, j < H.next := fun j hj => by
    obtain ⟨i, hi⟩ := List.getElem?_of_mem hj
    have hil : i < js.length := (List.getElem?_eq_some_iff.1 hi).1
    have hlive := List.all_eq_true.1 hl i (List.mem_range.2 (by omega))
    obtain ⟨o, ho'⟩ := Option.isSome_iff_exists.1 hlive
    have := hk i j hi
    rw [ho'] at this
    exact hr.old this
  have hold : ∀ k o, H.get k = some o → k < H.next := fun k o h => hr.old h
  refine WF.turnNew (r := r) (Q := fun v H' => (∃ ch, R0 v ch ∧ H' = mk ch) ∨ ∃ ch c rows, R1 c rows ch ∧ v = .tup [.sw H.next, c] ∧ H' = (mk ch).alloc (.seq r rows none)) ((WF.frame h js hm hp ha hq hn hl hnd).mono fun v H' ⟨v0, H0', ⟨k0, ch, k1, k2, kw⟩, e1, e2⟩ => ?_) ρ w xs hr hx
  subst e1; subst e2
  obtain ⟨m1, m2, m3⟩ := hmk ch
  have hg := graft_at (H := H) (H0' := H0') hnd hlt
  refine ⟨mk ch, m1, fun k o hko => ?_, ?_⟩
  · by_cases hkj : k ∈ js
    · obtain ⟨i, hi⟩ := List.getElem?_of_mem hkj
      have hil : i < js.length := (List.getElem?_eq_some_iff.1 hi).1
      rw [m3 i k hi] at hko
      have e := hg.1 i k hi (by omega)
      rw [k1 i (by omega)] at e
      cases hc : ch i with
      | none =>
        rw [hc] at hko e
        simp only at hko e
        rw [e, ← hk i k hi]
        exact ⟨hko, o, hko, .inl rfl⟩
      | some o' =>
        rw [hc] at hko e
        simp only [Option.some.injEq] at hko
        subst hko
        have hlive := List.all_eq_true.1 hl i (List.mem_range.2 (by omega))
        obtain ⟨o0, ho0⟩ := Option.isSome_iff_exists.1 hlive
        have h0 := hk i k hi
        rw [ho0] at h0
        exact ⟨by rw [e]; simp [ren_plain _ (k2 i o' hc)], _, h0, .inr (k2 i o' hc)⟩
    · rw [m2 k hkj] at hko
      exact ⟨by rw [hg.2 k (hold k o hko) hkj]; exact hko, o, hko, .inl rfl⟩
  · rcases kw with ⟨k3, k4⟩ | ⟨j, rows, ty, c, k5, k6, k7, rfl, k8, k9⟩
    · rw [ren_closed _ k3]
      exact .inl ⟨k3, .inl ⟨ch, k4, rfl⟩⟩
    · refine .inr ⟨newName js H.next j, rows, ty, c, ?_, k7, ?_, ?_, .inr ⟨ch, c, rows, k9, rfl, rfl⟩⟩
      · simp only [newName, List.getElem?_eq_none (show js.length ≤ j by omega)]; omega
      · simp only [AV.ren, AV.renL, ren_closed _ k7]
      · obtain ⟨g1, g2⟩ := graftGo_get (g := newName js H.next) H0' (List.range H0'.next) H.t List.nodup_range (fun i _ j _ hij => newName_inj hnd hlt i j hij) (newName js H.next j)
        have e := g1 j (List.mem_range.2 k6) rfl
        rw [k8] at e
        exact e

end
end Go.AM
set_option linter.unusedSimpArgs false
set_option linter.unusedVariables false
namespace Go.AM
open Go.ChangeShapes Go.WideShapes Go.ChangeAt Go.RowKit
section
variable {H : Type} {enc : TypeId × Value → H} {P : Program}
/-- Slices of rows in a slice, as an argument, and how long they are told. -/
theorem slices_sym {W : World} {rc : Reach} {base D : Nat} {t e e2 : TypeId} {v : Value} {d : DataW H} {ps : List MemPlace} {r : RTy} (h : DataW.Trod enc P W 0 (fun _ => true) true t v d ps) (hv : Value.okWide P W rc base t v)
    (hu : P.underlying t = some (.slice e)) (hu2 : P.underlying e = some (.slice e2)) (hr : tyR P D e2 = some r) (hs2 : Nat.beq r.size (P.cellsOf e2) = true) (hs : Nat.beq 1 (P.cellsOf e) = true) :
    ∃ rows : List (List r.den), Rel (ρ0 W) (.dsl (.one (.sl r)) rows) v ∧ ((d = .nil ∧ rows = []) ∨ ∃ es sp, d = .slice es sp ∧ es.length = rows.length ∧
      ∀ (i : Nat) (row : List r.den) (x : DataW H), rows[i]? = some row → es[i]? = some x → (x = .nil ∧ row = []) ∨ ∃ es2 sp2, x = .slice es2 sp2 ∧ es2.length = row.length) :=
  slice_symE (r := .one (.sl r)) (fun (row : List r.den) (x : DataW H) => (x = .nil ∧ row = []) ∨ ∃ es2 sp2, x = .slice es2 sp2 ∧ es2.length = row.length) h hv hu (fun n cs x hx => by
    cases n with
    | zero => simp [DataW.trod] at hx
    | succ fuel =>
      rcases DataW.trod_slice hu2 hx with ⟨rfl, hx2⟩ | ⟨a, len, cap, elems, rest, n, hn, rfl, hx2, _, hlc, hcm, hel, hget, _, _⟩
      · refine ⟨([] : List r.den), ?_, .inl ⟨by rw [hx2], rfl⟩⟩
        simp only [RTy.Rd]
        refine ⟨_, rfl, ?_⟩
        simp only [CTy.Rd]
        exact ⟨none, 0, rfl, Nat.le_refl _, Nat.zero_le _, fun _ => rfl, fun k row hk => by simp at hk⟩
      · obtain rfl : fuel = n := by omega
        obtain ⟨rows, hR⟩ := sl_rd (enc := enc) (Nat.eq_of_beq_eq_true hs2) hlc hcm hel hget fun cs x hx => trod_rd fuel e2 cs x hx D r hr
        refine ⟨rows, by simp only [RTy.Rd]; exact ⟨_, rfl, hR⟩, .inr ⟨elems.map (·.1), rest.map (·.1), by rw [hx2], ?_⟩⟩
        simp only [CTy.Rd] at hR
        obtain ⟨b, cap', e1, _⟩ := hR
        have e2 := (Value.slice.inj e1).2.1
        rw [List.length_map, hel, e2]) hs

theorem mem_weightsAll {e : TypeId} {n : Nat} : ∀ {l : List (DataW H)} {x : DataW H}, x ∈ l → n ∈ x.weights P e → n ∈ DataW.weightsAll P e l
  | y :: l, x, h, hn => by
    rw [DataW.weightsAll]
    rcases List.mem_cons.1 h with rfl | h
    · exact List.mem_append_left _ hn
    · exact List.mem_append_right _ (mem_weightsAll h hn)

/-- None of its rows is longer than a reading reaches. -/
theorem rows_le {α : Type} {t e e2 : TypeId} {d : DataW H} {rows : List (List α)} (hu : P.underlying t = some (.slice e)) (hu2 : P.underlying e = some (.slice e2)) (hb : Nat.ble 1 (P.bytesOf e2) = true)
    (hw : ∀ n ∈ d.weights P t, n ≤ reachBytes)
    (h : (d = .nil ∧ rows = []) ∨ ∃ es sp, d = .slice es sp ∧ es.length = rows.length ∧
      ∀ (i : Nat) (row : List α) (x : DataW H), rows[i]? = some row → es[i]? = some x → (x = .nil ∧ row = []) ∨ ∃ es2 sp2, x = .slice es2 sp2 ∧ es2.length = row.length) : ∀ row ∈ rows, row.length ≤ reachBytes := by
  have hb := Nat.le_of_ble_eq_true hb
  rcases h with ⟨_, rfl⟩ | ⟨es, sp, rfl, hl, h⟩
  · intro row hr; cases hr
  · intro row hr
    obtain ⟨i, hi⟩ := List.mem_iff_getElem?.1 hr
    have hlt : i < es.length := by rw [hl]; exact (List.getElem?_eq_some_iff.1 hi).1
    rcases h i row _ hi (List.getElem?_eq_getElem hlt) with ⟨_, rfl⟩ | ⟨es2, sp2, hx, hl2⟩
    · exact Nat.zero_le _
    · have : (es2.length + sp2.length) * P.bytesOf e2 ≤ reachBytes := by
        apply hw
        rw [DataW.weights, hu]
        refine List.mem_cons_of_mem _ (List.mem_append_left _ (mem_weightsAll (x := es[i]) (List.getElem_mem hlt) ?_))
        rw [hx, DataW.weights, hu2]
        exact List.mem_cons_self
      have h2 : es2.length + sp2.length ≤ (es2.length + sp2.length) * P.bytesOf e2 := Nat.le_mul_of_pos_right _ hb
      omega
/-- None of its texts is longer than a reading reaches. -/
theorem texts_le {t e : TypeId} {d : DataW H} {rows : List (List UInt8)} (hu : P.underlying t = some (.slice e)) (hw : ∀ n ∈ d.weights P t, n ≤ reachBytes)
    (h : (d = .nil ∧ rows = []) ∨ ∃ sp, d = .slice (rows.map fun s => .lit (.string s)) sp) : ∀ row ∈ rows, row.length ≤ reachBytes := by
  rcases h with ⟨_, rfl⟩ | ⟨sp, rfl⟩
  · intro row hr; cases hr
  · intro row hr
    apply hw
    rw [DataW.weights, hu]
    exact List.mem_cons_of_mem _ (List.mem_append_left _ (mem_weightsAll (x := .lit (.string row)) (List.mem_map.2 ⟨row, hr, rfl⟩) (by rw [DataW.weights]; exact List.mem_cons_self)))
/-- The same, of a slice. -/
theorem slice_le {t e : TypeId} {es sp : List (DataW H)} (hu : P.underlying t = some (.slice e)) (hb : Nat.ble 1 (P.bytesOf e) = true) (hw : ∀ n ∈ (DataW.slice es sp).weights P t, n ≤ reachBytes) : es.length ≤ reachBytes := by
  have hb := Nat.le_of_ble_eq_true hb
  have : (es.length + sp.length) * P.bytesOf e ≤ reachBytes := by
    apply hw
    rw [DataW.weights, hu]
    exact List.mem_cons_self
  have h2 : es.length + sp.length ≤ (es.length + sp.length) * P.bytesOf e := Nat.le_mul_of_pos_right _ hb
  omega
end
end Go.AM
set_option linter.unusedSimpArgs false
set_option linter.unusedVariables false
namespace Go.AM
open Go.RowKit
section
variable {P : Program} {B : Nat} {f : FuncId} {args args0 : List AV} {H H0 : Heap}

theorem WF.lookNewE {r : RTy} {Q0 : AV → Prop} {R : List r.den → Prop} (h : WF P B f args H fun v H' => (∀ k, k < H.next → H'.get k = H.get k) ∧ ((v.closed = true ∧ Q0 v) ∨ ∃ j rows ty, H.next ≤ j ∧ v = .sw j ∧ H'.get j = some (.seq r rows ty) ∧ R rows)) :
    WF P B f args H fun v H' => (Q0 v ∧ H' = H) ∨ ∃ rows, R rows ∧ v = .sw H.next ∧ H' = H.alloc (.seq r rows none) := by
  intro ρ w xs hr hx
  refine (h ρ w xs hr hx).mono ?_
  rintro en w' ⟨v, x, H', ρ', rfl, ⟨h1, hway⟩, he, hr', hv⟩
  rcases hway with ⟨h2, h3⟩ | ⟨j, rows, ty, hj, rfl, hjo, hR⟩
  · exact ⟨v, x, H, ρ.back ρ', rfl, .inl ⟨h3, rfl⟩, he.back, hr.back hr' he h1, Rel.closed (ρ := ρ') (ρ' := ρ.back ρ') (fun _ _ h => h) h2 hv⟩
  have hb := hr.back hr' he h1
  obtain ⟨e, hej, hO⟩ := hr'.obj j _ hjo
  have hO' : ORel (ρ.back ρ') B w' e (.seq r rows none) := by
    obtain ⟨k0, k1, k2⟩ := hO
    refine ⟨k0, k1, k2.imp id fun ⟨g1, arr, t, fz, g2, g3, g4, g5, g6, _⟩ => ⟨g1, arr, t, fz, g2, g3, g4, g5, g6, fun t h => by cases h⟩⟩
  have hB : e.nb = false → B ≤ e.b := fun hn => by
    obtain ⟨_, _, h | ⟨_, arr, t, fz, _, _, _, hB, _⟩⟩ := hO
    · rw [hn] at h; cases h.1
    · exact hB
  have hold : ∀ k o, H.get k = some o → k < ρ.ats.length := fun k o h => by rw [← hr.next]; exact hr.old h
  have hne : ∀ k o ek, H.get k = some o → ρ.ats[k]? = some ek → ek.nb = false → e.nb = false → ek.b ≠ e.b := fun k o ek hk hek h2 h3 hbb => by
    have hkl := hr.old hk
    have := hr'.inj j k _ o e ek hjo (by rw [h1 k hkl]; exact hk) hej (pre_get he.pre.ats hek) h3 h2 hbb.symm (by omega)
    have := hB h3
    omega
  have hrow : e.nb = false → ¬ ρ.blk e.b ∨ ρ.blk e.b := fun _ => (Classical.em _).symm
  have hget : ∀ k ek, ((ρ.back ρ').add e).ats[k]? = some ek → k < ρ.ats.length → ρ.ats[k]? = some ek := fun k ek h hk => by
    have h : (ρ.ats ++ [e])[k]? = some ek := h
    rw [List.getElem?_append_left hk] at h; exact h
  have hnew : ∀ ek, ((ρ.back ρ').add e).ats[H.next]? = some ek → ek = e := fun ek h => by
    rw [hr.next] at h
    have h : (ρ.ats ++ [e])[ρ.ats.length]? = some ek := h
    rw [List.getElem?_append_right (Nat.le_refl _), Nat.sub_self] at h
    simpa using h.symm
  have hlast : (ρ.ats ++ [e])[ρ.ats.length]? = some e := by rw [List.getElem?_append_right (Nat.le_refl _), Nat.sub_self]; rfl
  refine ⟨.sw H.next, x, H.alloc (.seq r rows none), (ρ.back ρ').add e, rfl, .inr ⟨rows, hR, rfl, rfl⟩, ?_, ?_, ?_⟩
  · refine ⟨⟨List.prefix_append _ _, he.pre.fz⟩, he.os, he.tape, he.output, he.size, he.below, he.other, fun b hbk => ?_, fun b c hc => he.fzn b c hc⟩
    rcases Env.blk_add.1 hbk with g | ⟨g1, g2⟩
    · exact .inl g
    · subst g2; exact he.new _ (Env.blk_of hej g1)
  · refine ⟨?_, hb.base, fun b hbk => ?_, fun k o hk => ?_, fun k k' o o' e1 e2 hk hk' g1 g2 n1 n2 hbb hne' => ?_, hb.fz, fun k o e1 c hk g1 n1 hc => ?_⟩
    · simp only [Heap.next_alloc, Env.add_ats, List.length_append, List.length_singleton, hr.next]; rfl
    · rcases Env.blk_add.1 hbk with g | ⟨g1, g2⟩
      · exact hb.bnd b g
      · subst g2; exact hr'.bnd _ (Env.blk_of hej g1)
    · rw [Heap.get_alloc] at hk
      split at hk
      · rename_i hkn
        cases hk
        refine ⟨e, ?_, hO'.mono (Env.le_add _ _) fun _ => rfl⟩
        rw [hkn, hr.next]; exact hlast
      · obtain ⟨e1, g1, g2⟩ := hb.obj k o hk
        exact ⟨e1, pre_get (List.prefix_append _ _) g1, g2.mono (Env.le_add _ _) fun _ => rfl⟩
    · rw [Heap.get_alloc] at hk hk'
      split at hk
      · rename_i hkn
        subst hkn
        have := hnew e1 g1; subst this
        rw [if_neg fun h => hne' h.symm] at hk'
        exact (hne k' o' e2 hk' (hget k' e2 g2 (hold k' o' hk')) n2 n1 hbb.symm).elim
      · split at hk'
        · rename_i hkn
          subst hkn
          have := hnew e2 g2; subst this
          exact (hne k o e1 hk (hget k e1 g1 (hold k o hk)) n1 n2 hbb).elim
        · exact hr.inj k k' o o' e1 e2 hk hk' (hget k e1 g1 (hold k o hk)) (hget k' e2 g2 (hold k' o' hk')) n1 n2 hbb hne'
    · rw [Heap.get_alloc] at hk
      split at hk
      · rename_i hkn
        subst hkn
        have := hnew e1 g1; subst this
        exact hr'.fzo j _ e1 c hjo hej n1 hc
      · exact hb.fzo k o e1 c hk (hget k e1 g1 (hold k o hk)) n1 hc
  · simp only [Rel] at hv ⊢
    obtain ⟨e', base, c, g1, g2⟩ := hv
    rw [hej] at g1; cases g1
    refine ⟨e, base, c, ?_, g2⟩
    rw [hr.next]; exact hlast

theorem WF.lookNewAtE {r : RTy} {Q0 : AV → Prop} {R : List r.den → Prop} (h : WF P B f args0 H0 fun v H' => (∀ k, k < H0.next → H'.get k = H0.get k) ∧ ((v.closed = true ∧ Q0 v) ∨ ∃ j rows ty, H0.next ≤ j ∧ j < H'.next ∧ v = .sw j ∧ H'.get j = some (.seq r rows ty) ∧ R rows)) (js : List Nat) (hnd : js.Nodup) (hn : H0.next = js.length) (hl : allLive H0 = true)
    (ht : T.allK (fun i => Nat.blt i H0.next) H0.t = true) {qs : List Prop} (ha : mVL (sameRen 0 js) args0 args = some qs) (hq : AllP qs)
    (hk : ∀ i j, js[i]? = some j → H.get j = (H0.get i).map (AObj.ren (newName js H.next)))
    (ho : ∀ i o, i < js.length → H0.get i = some o → ∃ j ps, js[i]? = some j ∧ mO (sameRen 0 js) o (.same j) (H.get j) = some ps ∧ AllP ps) : WF P B f args H fun v H' => (Q0 v ∧ H' = H) ∨ ∃ rows, R rows ∧ v = .sw H.next ∧ H' = H.alloc (.seq r rows none) := by
  obtain ⟨ps, hm, hp⟩ := mS_small (H := H) hnd hn ht ho
  intro ρ w xs hr hx
  have hlt : ∀ j ∈ js, j < H.next := fun j hj => by
    obtain ⟨i, hi⟩ := List.getElem?_of_mem hj
    have hil : i < js.length := (List.getElem?_eq_some_iff.1 hi).1
    have hlive := List.all_eq_true.1 hl i (List.mem_range.2 (by omega))
    obtain ⟨o, ho'⟩ := Option.isSome_iff_exists.1 hlive
    have := hk i j hi
    rw [ho'] at this
    exact hr.old this
  refine WF.lookNewE (Q0 := Q0) ((WF.frame h js hm hp ha hq hn hl hnd).mono fun v H' ⟨v0, H0', ⟨k1, hway⟩, e1, e2⟩ => ?_) ρ w xs hr hx
  rcases hway with ⟨k2, k3⟩ | ⟨j, rows, ty, k2, k2b, k3, k4, k5⟩
  · rw [ren_closed _ k2] at e1
    subst e1; subst e2
    exact ⟨graft_keep hnd hlt hn hk k1, .inl ⟨k2, k3⟩⟩
  subst k3; subst e1; subst e2
  refine ⟨graft_keep hnd hlt hn hk k1, .inr ⟨newName js H.next j, rows, ty, ?_, by simp only [AV.ren], ?_, k5⟩⟩
  · simp only [newName, List.getElem?_eq_none (show js.length ≤ j by omega)]; omega
  · have hinj : ∀ i i', newName js H.next i = newName js H.next i' → i = i' := fun i i' hgg => by
      simp only [newName] at hgg
      cases h1 : js[i]? with
      | none =>
        cases h2 : js[i']? with
        | none =>
          rw [h1, h2] at hgg
          have a1 := List.getElem?_eq_none_iff.1 h1
          have a2 := List.getElem?_eq_none_iff.1 h2
          simp only at hgg; omega
        | some j' => rw [h1, h2] at hgg; have := hlt j' (List.mem_of_getElem? h2); simp only at hgg; omega
      | some j =>
        cases h2 : js[i']? with
        | none => rw [h1, h2] at hgg; have := hlt j (List.mem_of_getElem? h1); simp only at hgg; omega
        | some j' =>
          rw [h1, h2] at hgg
          simp only at hgg
          subst hgg
          have hi : i < js.length := (List.getElem?_eq_some_iff.1 h1).1
          exact (List.getElem?_inj hi hnd).1 (h1.trans h2.symm)
    obtain ⟨g1, g2⟩ := graftGo_get (g := newName js H.next) H0' (List.range H0'.next) H.t List.nodup_range (fun i _ j _ hij => hinj i j hij) (newName js H.next j)
    have e := g1 j (List.mem_range.2 k2b) rfl
    rw [k4] at e
    exact e
end
end Go.AM
