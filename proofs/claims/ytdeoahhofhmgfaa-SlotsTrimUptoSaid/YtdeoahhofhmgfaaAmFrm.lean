/- THE ABSTRACT MACHINE, 26: what is shown of a call in a small state holds of it in a large one. -/
import Derived.Test.YtdeoahhofhmgfaaAmVc2
set_option linter.unusedSimpArgs false
set_option linter.unusedVariables false
namespace Go.AM
open Go.RowKit

/-! ### Names are given anew -/
mutual
def AV.ren (g : Nat → Nat) : AV → AV
  | .ptr i off => .ptr (g i) off
  | .slc i off len cap ex => .slc (g i) off len cap ex
  | .map i => .map (g i)
  | .fn f a b => .fn f (AV.renL g a) (AV.renL g b)
  | .yld i => .yld (g i)
  | .iface t v => .iface t (AV.ren g v)
  | .agg cs => .agg (AV.renL g cs)
  | .tup cs => .tup (AV.renL g cs)
  | .sw i => .sw (g i)
  | .ss i lo len => .ss (g i) lo len
  | .eptr i k j => .eptr (g i) k j
  | .bool b => .bool b
  | .int k n => .int k n
  | .str s => .str s
  | .nilPtr => .nilPtr
  | .nilSlc => .nilSlc
  | .emp => .emp
  | .nilMap => .nilMap
  | .nilFn => .nilFn
  | .nilIface => .nilIface
  | .sI k n => .sI k n
  | .sB b => .sB b
  | .sS s => .sS s
  | .dsl r rows => .dsl r rows
  | .dptr r row j => .dptr r row j
def AV.renL (g : Nat → Nat) : List AV → List AV
  | [] => []
  | v :: vs => AV.ren g v :: AV.renL g vs
end

def renT (g : Nat → Nat) : T AV → T AV
  | .nil => .nil
  | .node l v r => .node (renT g l) (match v with
    | none => none
    | some v => some (AV.ren g v)) (renT g r)

def renE (g : Nat → Nat) : List Ent → List Ent
  | [] => []
  | e :: es => { key := AV.ren g e.key, val := AV.ren g e.val, born := e.born } :: renE g es

def AObj.ren (g : Nat → Nat) : AObj → AObj
  | .cells ro es cs ty => .cells ro es (AV.renL g cs) ty
  | .map es clock => .map (renE g es) clock
  | .sIter s pos => .sIter s pos
  | .mIter m since seen stepped => .mIter (g m) since seen stepped
  | .loop st pd f fr n ps as bd => .loop st pd f (renT g fr) n ps as bd
  | .seq r rows ty => .seq r rows ty
  | .smap ka va kr vr m bs clk => .smap ka va kr vr m bs clk
  | .smIter m since seen stepped => .smIter (g m) since seen stepped

structure Rn (ρ ρ' : Env) (g : Nat → Nat) : Prop where
  at' : ∀ i e, ρ.ats[i]? = some e → ρ'.ats[g i]? = some e
  fz : FzLe ρ.fz ρ'.fz

section
variable {ρ ρ' : Env} {g : Nat → Nat}

mutual
theorem Rel.ren (h : Rn ρ ρ' g) : ∀ {v : AV} {x : Value}, Rel ρ v x → Rel ρ' (v.ren g) x
  | .sI _ _, _, hr | .sB _, _, hr | .sS _, _, hr | .bool _, _, hr | .int _ _, _, hr | .str _, _, hr | .nilPtr, _, hr | .nilSlc, _, hr | .nilMap, _, hr | .nilFn, _, hr | .nilIface, _, hr | .emp, _, hr => by
    simp only [AV.ren, Rel] at *; exact hr
  | .ptr i off, _, hr => by
    simp only [AV.ren, Rel] at *; obtain ⟨e, he, hx⟩ := hr; exact ⟨e, h.at' _ _ he, hx⟩
  | .slc i off len cap ex, _, hr => by
    simp only [AV.ren, Rel] at *; obtain ⟨e, c, he, hx⟩ := hr; exact ⟨e, c, h.at' _ _ he, hx⟩
  | .map i, _, hr => by
    simp only [AV.ren, Rel] at *; obtain ⟨e, he, hx⟩ := hr; exact ⟨e, h.at' _ _ he, hx⟩
  | .yld i, _, hr => by
    simp only [AV.ren, Rel] at *; obtain ⟨e, he, hx⟩ := hr; exact ⟨e, h.at' _ _ he, hx⟩
  | .eptr i k j, _, hr => by
    simp only [AV.ren, Rel] at *; obtain ⟨e, he, hx⟩ := hr; exact ⟨e, h.at' _ _ he, hx⟩
  | .sw i, _, hr => by
    simp only [AV.ren, Rel] at *; obtain ⟨e, b, c, he, hx⟩ := hr; exact ⟨e, b, c, h.at' _ _ he, hx⟩
  | .ss i lo len, _, hr => by
    simp only [AV.ren, Rel] at *; obtain ⟨e, b, c, he, hx⟩ := hr; exact ⟨e, b, c, h.at' _ _ he, hx⟩
  | .dsl r rows, _, hr => by
    simp only [AV.ren, Rel] at *; exact hr.mono h.fz
  | .dptr r row j, _, hr => by
    simp only [AV.ren, Rel] at *; obtain ⟨b, off, arr, ys, h1, h2, h3, h4⟩ := hr; exact ⟨b, off, arr, ys, h1, h.fz _ _ h2, h3, h4.mono h.fz⟩
  | .fn f fs cs, _, hr => by
    simp only [AV.ren, Rel] at *; obtain ⟨fs', cs', hx, h1, h2⟩ := hr; exact ⟨fs', cs', hx, h1.ren h, h2.ren h⟩
  | .iface t v, _, hr => by
    simp only [AV.ren, Rel] at *; obtain ⟨y, hx, h1⟩ := hr; exact ⟨y, hx, h1.ren h⟩
  | .agg cs, _, hr => by
    simp only [AV.ren, Rel] at *; obtain ⟨y, hx, h1⟩ := hr; exact ⟨y, hx, h1.ren h⟩
  | .tup cs, _, hr => by
    simp only [AV.ren, Rel] at *; obtain ⟨y, hx, h1⟩ := hr; exact ⟨y, hx, h1.ren h⟩
theorem RelL.ren (h : Rn ρ ρ' g) : ∀ {vs : List AV} {xs : List Value}, RelL ρ vs xs → RelL ρ' (AV.renL g vs) xs
  | [], _, hr => by simp only [AV.renL, RelL] at *; exact hr
  | v :: vs, _, hr => by
    simp only [AV.renL, RelL] at *
    obtain ⟨y, ys, e, h1, h2⟩ := hr
    exact ⟨y, ys, e, h1.ren h, h2.ren h⟩
end

theorem renL_get : ∀ {vs : List AV} {j : Nat}, (AV.renL g vs)[j]? = (vs[j]?).map (AV.ren g)
  | [], j => by simp [AV.renL]
  | v :: vs, 0 => by simp [AV.renL]
  | v :: vs, j + 1 => by simp [AV.renL, renL_get (vs := vs)]

theorem renT_get : ∀ {t : T AV} {j : Nat}, (renT g t).get j = (t.get j).map (AV.ren g)
  | .nil, j => by simp [renT]
  | .node l v r, 0 => by cases v <;> simp [renT, T.get]
  | .node l v r, j + 1 => by
    simp only [renT, T.get]
    cases Nat.beq (j % 2) 0
    · exact renT_get
    · exact renT_get

theorem EntL.ren (h : Rn ρ ρ' g) : ∀ {es : List Ent} {xs : List MapEntry}, EntL ρ es xs → EntL ρ' (renE g es) xs
  | [], _, hr => hr
  | _ :: _, _, hr => by
    obtain ⟨y, ys, e, h1, h2, h3, h4⟩ := hr
    exact ⟨y, ys, e, h1.ren h, h2.ren h, h3, h4.ren h⟩

theorem ORel.ren {B : Nat} {w : World} {e : At} {o : AObj} (h : Rn ρ ρ' g) (ho : ORel ρ B w e o) : ORel ρ' B w e (o.ren g) := by
  cases o with
  | cells ro es cs oty =>
    obtain ⟨h0, h1, arr, ty, fz, h2, h3, h4, h5⟩ := ho
    refine ⟨h0, h1, arr, ty, fz, h2, h3, fun j v hj => ?_, h5⟩
    rw [renL_get, Option.map_eq_some_iff] at hj
    obtain ⟨v', hv', rfl⟩ := hj
    obtain ⟨x, hx, hr⟩ := h4 j v' hv'
    exact ⟨x, hx, hr.ren h⟩
  | map es clock => obtain ⟨h0, h1, arr, h2, h3⟩ := ho; exact ⟨h0, h1, arr, h2, h3.ren h⟩
  | sIter s pos => exact ho
  | mIter m since seen stepped => obtain ⟨h00, h0, h1, em, h2, h3⟩ := ho; exact ⟨h00, h0, h1, em, h.at' _ _ h2, h3⟩
  | loop st pending fn fr n params assign body =>
    obtain ⟨h0, h1, tmps, d, f, h2, h3, h4⟩ := ho
    refine ⟨h0, h1, tmps, d, f, h2, fun t v ht => ?_, h4⟩
    rw [renT_get, Option.map_eq_some_iff] at ht
    obtain ⟨v', hv', rfl⟩ := ht
    obtain ⟨x, hx, hr⟩ := h3 t v' hv'
    exact ⟨x, hx, hr.ren h⟩
  | seq r rows oty =>
    obtain ⟨h0, h1, h2⟩ := ho
    refine ⟨h0, h1, ?_⟩
    rcases h2 with h2 | ⟨h2, arr, ty, fz, h3, h4, h6, h7⟩
    · exact .inl h2
    · exact .inr ⟨h2, arr, ty, fz, h3, h4, h6.mono h.fz, h7⟩
  | smap ka va kr vr m bs clk =>
    obtain ⟨h0, h1, h2, arr, h3, h4, hb, h5⟩ := ho
    exact ⟨h0, h1, h2, arr, h3, h4, hb, h5.mono h.fz⟩
  | smIter m since seen stepped => obtain ⟨h00, h0, h1, em, h2, h3⟩ := ho; exact ⟨h00, h0, h1, em, h.at' _ _ h2, h3⟩
end

/-- Where the names of a small state lie in a large one: those that were there; the new ones behind all. -/
def newName (js : List Nat) (next : Nat) (i : Nat) : Nat := match js[i]? with
  | some j => j
  | none => next + (i - js.length)

/-- The blocks of a small state, laid into a large one. -/
def graftGo (g : Nat → Nat) (H0' : Heap) : List Nat → T AObj → T AObj
  | [], t => t
  | i :: is, t => graftGo g H0' is (t.set (g i) (match H0'.get i with
    | none => none
    | some o => some (o.ren g)))

def graft (js : List Nat) (H H0' : Heap) : Heap :=
  { t := graftGo (newName js H.next) H0' (List.range H0'.next) H.t, next := H.next + (H0'.next - js.length) }

theorem graftGo_get {g : Nat → Nat} (H0' : Heap) : ∀ (is : List Nat) (t : T AObj), is.Nodup → (∀ i ∈ is, ∀ j ∈ is, g i = g j → i = j) → ∀ k,
    (∀ i ∈ is, g i = k → (graftGo g H0' is t).get k = (H0'.get i).map (AObj.ren g)) ∧ ((∀ i ∈ is, g i ≠ k) → (graftGo g H0' is t).get k = t.get k)
  | [], t, _, _, k => ⟨fun i hi => (by cases hi), fun _ => rfl⟩
  | i :: is, t, hnd, hinj, k => by
    rw [List.nodup_cons] at hnd
    obtain ⟨h1, h2⟩ := graftGo_get H0' is (t.set (g i) (match H0'.get i with
      | none => none
      | some o => some (o.ren g))) hnd.2 (fun a ha b hb => hinj a (List.mem_cons_of_mem _ ha) b (List.mem_cons_of_mem _ hb)) k
    refine ⟨fun j hj hjk => ?_, fun hall => ?_⟩
    · rcases List.mem_cons.1 hj with rfl | hj
      · have : ∀ a ∈ is, g a ≠ k := fun a ha hak => by
          have := hinj a (List.mem_cons_of_mem _ ha) j (List.mem_cons_self ..) (hak.trans hjk.symm)
          subst this; exact hnd.1 ha
        simp only [graftGo]
        rw [h2 this, T.get_set, if_pos hjk.symm]
        cases H0'.get j <;> rfl
      · simp only [graftGo]; exact h1 j hj hjk
    · simp only [graftGo]
      rw [h2 fun a ha => hall a (List.mem_cons_of_mem _ ha), T.get_set, if_neg (Ne.symm (hall i (List.mem_cons_self ..)))]

/-- The names of a small state. -/
def sameRen : Nat → List Nat → Ren
  | _, [] => []
  | i, j :: js => (i, .same j) :: sameRen (i + 1) js

theorem lk_sameRen : ∀ {js : List Nat} {i0 i : Nat}, lk (sameRen i0 js) i = if i0 ≤ i then (js[i - i0]?).map Src.same else none
  | [], i0, i => by simp [sameRen, lk]
  | j :: js, i0, i => by
    simp only [sameRen, lk]
    by_cases h : i0 = i
    · subst h; simp [Nat.beq_refl]
    · have hb : Nat.beq i0 i = false := by
        cases hb : Nat.beq i0 i with
        | false => rfl
        | true => exact absurd (Nat.eq_of_beq_eq_true hb) h
      rw [hb, cond_false, lk_sameRen]
      by_cases h2 : i0 ≤ i
      · rw [if_pos (by omega), if_pos h2, show i - i0 = (i - (i0 + 1)) + 1 by omega]; simp
      · rw [if_neg (by omega), if_neg h2]

def allLive (H0 : Heap) : Bool := (List.range H0.next).all fun i => (H0.get i).isSome

section
variable {P : Program} {B : Nat} {f : FuncId} {args args0 : List AV} {H H0 : Heap} {Q0 : KF}

theorem WF.frame (h : WF P B f args0 H0 Q0) (js : List Nat) {ps qs : List Prop} (hm : mS 0 (sameRen 0 js) [] H0 .nil H = some ps) (hp : AllP ps) (ha : mVL (sameRen 0 js) args0 args = some qs) (hq : AllP qs)
    (hn : H0.next = js.length) (hl : allLive H0 = true) (hnd : js.Nodup) :
    WF P B f args H fun v H' => ∃ v0 H0', Q0 v0 H0' ∧ v = v0.ren (newName js H.next) ∧ H' = graft js H H0' := by
  intro ρ w xs hr hx
  obtain ⟨ρ0, hr0, _, hek, good, hρ0, hobj⟩ := mS_full hm hp B ρ w #[] (Nat.zero_le _) hr (fun t v ht => by cases ht)
  have hx0 : RelL ρ0 args0 xs.toList := mVL_sound good ha hq hx
  refine (h ρ0 w xs hr0 hx0).mono ?_
  rintro e w' ⟨v0, x, H0', ρ1, rfl, hq0, he, hr1, hrel⟩
  have hlen0 : ρ0.ats.length = js.length := by rw [← hr0.next, hn]
  have hat0 : ∀ i j, js[i]? = some j → ρ0.ats[i]? = ρ.ats[j]? := fun i j hj => by
    have hi : i < js.length := (List.getElem?_eq_some_iff.1 hj).1
    have hl2 : lk (sameRen 0 js) i = some (.same j) := by rw [lk_sameRen, if_pos (Nat.zero_le _), Nat.sub_zero, hj]; rfl
    obtain ⟨o, ho⟩ : ∃ o, H0.get i = some o := by
      have := List.all_eq_true.1 hl i (List.mem_range.2 (by omega))
      exact Option.isSome_iff_exists.1 this
    obtain ⟨e, he1, _⟩ := hobj i o ho
    have hlive : ∃ e', ρ.ats[j]? = some e' := by
      cases hh : ρ.ats[j]? with
      | some e' => exact ⟨e', rfl⟩
      | none =>
        exfalso
        obtain ⟨e1, he1', hnb⟩ := hobj i o ho
        rw [hρ0] at he1'
        simp only [renEnv, List.getElem?_map, List.getElem?_range (show i < H0.next by omega), Option.map_some, Option.some.injEq, hl2, Option.bind_some, Src.atE, hh, Option.getD_none] at he1'
        -- an entry that is not there
        obtain ⟨e2, h2, hO⟩ := hr0.obj i o ho
        unfold mS at hm
        cases hb : (rootsOk (sameRen 0 js) 0 && Nat.ble 0 H0.next && Nat.ble 0 H.next && distinct (sameRen 0 js) [] [] && (sameRen 0 js).all (fun p => Nat.blt p.1 H0.next) && subsOk H0 (sameRen 0 js) && T.allK (fun i => Nat.blt i H0.next) H0.t) with
        | false => rw [hb] at hm; cases hm
        | true =>
          rw [hb, cond_true] at hm
          obtain ⟨p1, q1, _, h4, _, hq1⟩ := andP_inv hm hp
          obtain ⟨s, ps', k1, k2, k3⟩ := mOs_sound h4 hq1 i (List.mem_range.2 (by omega)) o ho
          rw [hl2] at k1; cases k1
          obtain ⟨e3, k4, _⟩ := mO_sound hr good k2 k3
          simp only [Src.atE] at k4
          rw [hh] at k4; cases k4
    obtain ⟨e', he'⟩ := hlive
    rw [he']
    exact good.at' i _ e' hl2 he'
  let g := newName js H.next
  let ρ' : Env := { ats := ρ.ats ++ ρ1.ats.drop js.length, fz := ρ1.fz }
  have hpre := he.pre.ats
  have hle1 : js.length ≤ ρ1.ats.length := by rw [← hlen0]; exact hpre.length_le
  have hold : ∀ i, i < js.length → ρ1.ats[i]? = ρ0.ats[i]? := fun i hi => by
    obtain ⟨e, he'⟩ : ∃ e, ρ0.ats[i]? = some e := ⟨_, List.getElem?_eq_getElem (by omega)⟩
    rw [he', pre_get hpre he']
  have hg : ∀ i, i < ρ1.ats.length → ρ'.ats[g i]? = ρ1.ats[i]? := fun i hi => by
    by_cases hlt : i < js.length
    · obtain ⟨j, hj⟩ : ∃ j, js[i]? = some j := ⟨_, List.getElem?_eq_getElem hlt⟩
      rw [hold i hlt, hat0 i j hj]
      have : g i = j := by simp only [g, newName, hj]
      rw [this]
      obtain ⟨e, he'⟩ : ∃ e, ρ0.ats[i]? = some e := ⟨_, List.getElem?_eq_getElem (by omega)⟩
      have hj' := hat0 i j hj
      rw [he'] at hj'
      have hjl : j < ρ.ats.length := (List.getElem?_eq_some_iff.1 hj'.symm).1
      exact List.getElem?_append_left hjl
    · have : g i = ρ.ats.length + (i - js.length) := by
        simp only [g, newName, List.getElem?_eq_none (show js.length ≤ i by omega), hr.next]
      rw [this, List.getElem?_append_right (by omega), Nat.add_sub_cancel_left, List.getElem?_drop]
      congr 1; omega
  have hrn : Rn ρ1 ρ' g := ⟨fun i e hi => by
    rw [hg i (List.getElem?_eq_some_iff.1 hi).1]; exact hi, fun b c hb => hb⟩
  have hle : ρ.le ρ' := ⟨List.prefix_append _ _, fun b c hb => he.pre.fz b c (hek.fz b c hb)⟩
  have hjl : ∀ i j, js[i]? = some j → j < H.next := fun i j hj => by
    have hi : i < js.length := (List.getElem?_eq_some_iff.1 hj).1
    obtain ⟨e, he'⟩ : ∃ e, ρ0.ats[i]? = some e := ⟨_, List.getElem?_eq_getElem (by omega)⟩
    have := hat0 i j hj
    rw [he'] at this
    rw [hr.next]; exact (List.getElem?_eq_some_iff.1 this.symm).1
  have hinj : ∀ i i', g i = g i' → i = i' := fun i i' hgg => by
    simp only [g, newName] at hgg
    cases h1 : js[i]? with
    | none =>
      cases h2 : js[i']? with
      | none =>
        rw [h1, h2] at hgg
        have a1 := List.getElem?_eq_none_iff.1 h1
        have a2 := List.getElem?_eq_none_iff.1 h2
        simp only at hgg; omega
      | some j' => rw [h1, h2] at hgg; have := hjl i' j' h2; simp only at hgg; omega
    | some j =>
      cases h2 : js[i']? with
      | none => rw [h1, h2] at hgg; have := hjl i j h1; simp only at hgg; omega
      | some j' =>
        rw [h1, h2] at hgg
        simp only at hgg
        subst hgg
        have hi : i < js.length := (List.getElem?_eq_some_iff.1 h1).1
        exact (List.getElem?_inj hi hnd).1 (h1.trans h2.symm)
  have hget : ∀ k, (∀ i, i < H0'.next → g i = k → (graft js H H0').get k = (H0'.get i).map (AObj.ren g)) ∧ ((∀ i, i < H0'.next → g i ≠ k) → (graft js H H0').get k = H.get k) := fun k => by
    obtain ⟨g1, g2⟩ := graftGo_get (g := g) H0' (List.range H0'.next) H.t List.nodup_range (fun i _ j _ hij => hinj i j hij) k
    exact ⟨fun i hi hik => g1 i (List.mem_range.2 hi) hik, fun hall => g2 fun i hi => hall i (List.mem_range.1 hi)⟩
  have hnx1 := hr1.next
  have hblk' : ∀ b, ρ'.blk b → ρ.blk b ∨ ρ1.blk b := fun b ⟨e, hm, hnb, hbb⟩ => by
    rcases List.mem_append.1 hm with hm | hm
    · exact .inl ⟨e, hm, hnb, hbb⟩
    · exact .inr ⟨e, List.mem_of_mem_drop hm, hnb, hbb⟩
  have hblk0 : ∀ b, ρ0.blk b → ρ.blk b := fun b hb => (hek.new b hb).elim id fun hge => by
    have := hr0.bnd b hb; omega
  -- a block of the large state that the call does not know
  have hfar : ∀ (k : Nat) (o : AObj) (e : At), H.get k = some o → (∀ i, i < js.length → js[i]? ≠ some k) → ρ.ats[k]? = some e → e.nb = false → e.b < B ∨ ¬ ρ0.blk e.b := fun k o e hk hno hek' hnb => by
    by_cases hb : ρ0.blk e.b
    · obtain ⟨e0, hm0, hnb0, hbb0⟩ := hb
      obtain ⟨i, hi⟩ := List.getElem?_of_mem hm0
      have hil : i < js.length := by rw [← hlen0]; exact (List.getElem?_eq_some_iff.1 hi).1
      obtain ⟨j, hj⟩ : ∃ j, js[i]? = some j := ⟨_, List.getElem?_eq_getElem hil⟩
      obtain ⟨o0, ho0⟩ : ∃ o, H0.get i = some o := by
        have := List.all_eq_true.1 hl i (List.mem_range.2 (by omega))
        exact Option.isSome_iff_exists.1 this
      obtain ⟨e1, he1, hsrc⟩ := hobj i o0 ho0
      rw [hi] at he1; cases he1
      obtain ⟨s, j', o', e', m1, m2, m3, m4, m5, m6⟩ := hsrc hnb0
      have hjj : j' = j := by
        have hl2 : lk (sameRen 0 js) i = some (.same j) := by rw [lk_sameRen, if_pos (Nat.zero_le _), Nat.sub_zero, hj]; rfl
        rw [hl2] at m1; cases m1
        simp only [Src.id?, Option.some.injEq] at m2
        exact m2.symm
      subst hjj
      refine .inl (hr.inj k j' o o' e e' hk m3 hek' m4 hnb m6 (by rw [m5, hbb0]) fun hkj => ?_)
      subst hkj; exact hno i hil hj
    · exact .inr hb
  have hsame : ∀ (k : Nat) (o : AObj) (e : At), H.get k = some o → (∀ i, i < js.length → js[i]? ≠ some k) → ρ.ats[k]? = some e → e.nb = false → w'.heap[e.b]? = w.heap[e.b]? := fun k o e hk hno hek' hnb => by
    rcases hfar k o e hk hno hek' hnb with hlt | hnk
    · exact he.below _ hlt
    · exact he.other _ (hr.bnd _ (Env.blk_of hek' hnb)) hnk
  have himg : ∀ (k : Nat) (o : AObj), (graft js H H0').get k = some o → (∃ i o0, i < H0'.next ∧ g i = k ∧ H0'.get i = some o0 ∧ o = o0.ren g) ∨ (H.get k = some o ∧ (∀ i, i < H0'.next → g i ≠ k)) := fun k o hk => by
    by_cases hex : ∃ i, i < H0'.next ∧ g i = k
    · obtain ⟨i, hi, hik⟩ := hex
      rw [(hget k).1 i hi hik, Option.map_eq_some_iff] at hk
      obtain ⟨o0, h0, rfl⟩ := hk
      exact .inl ⟨i, o0, hi, hik, h0, rfl⟩
    · have hall : ∀ i, i < H0'.next → g i ≠ k := fun i hi hik => hex ⟨i, hi, hik⟩
      rw [(hget k).2 hall] at hk
      exact .inr ⟨hk, hall⟩
  have hno : ∀ (k : Nat), (∀ i, i < H0'.next → g i ≠ k) → ∀ i, i < js.length → js[i]? ≠ some k := fun k hall i hi hik => by
    refine hall i (by omega) ?_
    simp only [g, newName, hik]
  have hold' : ∀ (k : Nat) (o : AObj) (e : At), H.get k = some o → ρ'.ats[k]? = some e → ρ.ats[k]? = some e := fun k o e hk he' => by
    have : k < ρ.ats.length := by rw [← hr.next]; exact hr.old hk
    rwa [List.getElem?_append_left this] at he'
  refine ⟨v0.ren g, x, graft js H H0', ρ', rfl, ⟨v0, H0', hq0, rfl, rfl⟩, ?_, ?_, hrel.ren hrn⟩
  · refine ⟨hle, he.os, he.tape, he.output, he.size, he.below, fun k hk hnk => he.other k hk fun hb => hnk (hblk0 k hb), fun b hb => ?_, fun b c hb => ?_⟩
    · rcases hblk' b hb with hb | hb
      · exact .inl hb
      · rcases he.new b hb with hb | hge
        · exact .inl (hblk0 b hb)
        · exact .inr hge
    · rcases he.fzn b c hb with hb | hb | hge
      · rcases hek.fzn b c hb with hb | hb | hge
        · exact .inl hb
        · exact .inr (.inl hb)
        · exact .inr (.inr hge)
      · exact .inr (.inl (hblk0 b hb))
      · exact .inr (.inr hge)
  · refine ⟨?_, hr1.base, fun b hb => ?_, fun k o hk => ?_, fun k k' o o' e e' hk hk' he1 he2 hn1 hn2 hbb hne => ?_, hr1.fz, fun k o e c hk he1 hn1 hc => ?_⟩
    · simp only [graft, ρ', List.length_append, List.length_drop, hr.next, hnx1]
    · rcases hblk' b hb with hb | hb
      · have := hr.bnd b hb; have := he.size; omega
      · exact hr1.bnd b hb
    · rcases himg k o hk with ⟨i, o0, hi, rfl, h0, rfl⟩ | ⟨hk0, hall⟩
      · obtain ⟨e, he1, hO⟩ := hr1.obj i o0 h0
        exact ⟨e, by rw [hg i (by omega)]; exact he1, hO.ren hrn⟩
      · obtain ⟨e, he1, hO⟩ := hr.obj k o hk0
        exact ⟨e, pre_get hle.ats he1, hO.mono hle fun hnb => hsame k o e hk0 (hno k hall) he1 hnb⟩
    · have mixed : ∀ (k k' : Nat) (o o' : AObj) (e e' : At) (i : Nat) (o0 : AObj), i < H0'.next → g i = k → H0'.get i = some o0 → H.get k' = some o' → (∀ i, i < H0'.next → g i ≠ k') → ρ'.ats[k]? = some e → ρ'.ats[k']? = some e' → e.nb = false → e'.nb = false → e.b = e'.b → e.b < B := by
        intro k k' o o' e e' i o0 hi hik h0 hk' hall he1 he2 hn1 hn2 hbb
        rw [← hik, hg i (by omega)] at he1
        have he2' := hold' k' o' e' hk' he2
        rcases hfar k' o' e' hk' (hno k' hall) he2' hn2 with hlt | hnk
        · omega
        · rcases he.new e.b (Env.blk_of he1 hn1) with hb | hge
          · rw [hbb] at hb; exact absurd hb hnk
          · have := hr.bnd _ (Env.blk_of he2' hn2); omega
      rcases himg k o hk with ⟨i, o0, hi, hik, h0, rfl⟩ | ⟨hk0, hall⟩ <;> rcases himg k' o' hk' with ⟨i', o0', hi', hik', h0', rfl⟩ | ⟨hk0', hall'⟩
      · rw [← hik, hg i (by omega)] at he1
        rw [← hik', hg i' (by omega)] at he2
        exact hr1.inj i i' o0 o0' e e' h0 h0' he1 he2 hn1 hn2 hbb fun hii => hne (by rw [← hik, ← hik', hii])
      · exact mixed k k' (o0.ren g) o' e e' i o0 hi hik h0 hk0' hall' he1 he2 hn1 hn2 hbb
      · have := mixed k' k (o0'.ren g) o e' e i' o0' hi' hik' h0' hk0 hall he2 he1 hn2 hn1 hbb.symm
        omega
      · exact hr.inj k k' o o' e e' hk0 hk0' (hold' k o e hk0 he1) (hold' k' o' e' hk0' he2) hn1 hn2 hbb hne
    · rcases himg k o hk with ⟨i, o0, hi, hik, h0, rfl⟩ | ⟨hk0, hall⟩
      · rw [← hik, hg i (by omega)] at he1
        exact hr1.fzo i o0 e c h0 he1 hn1 hc
      · have he1' := hold' k o e hk0 he1
        rcases he.fzn _ _ hc with hb | hb | hge
        · have hfz0 : ρ0.fz = ρ.fz := by rw [hρ0]; rfl
          rw [hfz0] at hb
          exact hr.fzo k o e c hk0 he1' hn1 hb
        · rcases hfar k o e hk0 (hno k hall) he1' hn1 with hlt | hnk
          · exact hlt
          · exact absurd hb hnk
        · have := hr.bnd _ (Env.blk_of he1' hn1); omega
end
end Go.AM
