/- THE ABSTRACT MACHINE, 9: the operations are sound, part 6: maps. -/
import Derived.Test.YtdeoahhofhmgfaaAmSnd5
set_option linter.unusedSimpArgs false
set_option linter.unusedVariables false
namespace Go.AM
open Go.RowKit
section
variable {B : Nat} {ρ : Env} {H : Heap} {w : World} {P : Program}

theorem EntL.length : ∀ {es : List Ent} {xs : List MapEntry}, EntL ρ es xs → xs.length = es.length
  | [], _, h => by simp only [EntL] at h; subst h; rfl
  | e :: es, _, h => by
    obtain ⟨y, ys, rfl, _, _, _, h4⟩ := h
    simp [EntL.length h4]

theorem EntL.get : ∀ {es : List Ent} {xs : List MapEntry}, EntL ρ es xs → ∀ {j : Nat} {e : Ent}, es[j]? = some e → ∃ y, xs[j]? = some y ∧ Rel ρ e.key y.key ∧ Rel ρ e.val y.val ∧ y.born = e.born
  | [], _, _, j, e, he => by simp at he
  | e0 :: es, _, h, j, e, he => by
    obtain ⟨y, ys, rfl, h1, h2, h3, h4⟩ := h
    cases j with
    | zero => simp at he; subst he; exact ⟨y, by simp, h1, h2, h3⟩
    | succ j => simp at he; obtain ⟨z, hz, hr⟩ := h4.get he; exact ⟨z, by simpa using hz, hr⟩

theorem EntL.append : ∀ {es es' : List Ent} {xs xs' : List MapEntry}, EntL ρ es xs → EntL ρ es' xs' → EntL ρ (es ++ es') (xs ++ xs')
  | [], _, _, _, h, h' => by simp only [EntL] at h; subst h; exact h'
  | e :: es, _, _, _, h, h' => by
    obtain ⟨y, ys, rfl, h1, h2, h3, h4⟩ := h
    exact ⟨y, _, rfl, h1, h2, h3, h4.append h'⟩

theorem EntL.set : ∀ {es : List Ent} {xs : List MapEntry} (_ : EntL ρ es xs) (j : Nat) {e : Ent} {y : MapEntry}, Rel ρ e.key y.key → Rel ρ e.val y.val → y.born = e.born → EntL ρ (es.set j e) (xs.set j y)
  | [], _, h, _, _, _, _, _, _ => by simp only [EntL] at h; subst h; rfl
  | e0 :: es, _, h, 0, _, _, h1, h2, h3 => by
    obtain ⟨y, ys, rfl, _, _, _, h4⟩ := h
    exact ⟨_, _, rfl, h1, h2, h3, h4⟩
  | e0 :: es, _, h, j + 1, _, _, h1, h2, h3 => by
    obtain ⟨y, ys, rfl, g1, g2, g3, h4⟩ := h
    exact ⟨_, _, rfl, g1, g2, g3, h4.set j h1 h2 h3⟩

theorem EntL.eraseIdx : ∀ {es : List Ent} {xs : List MapEntry} (_ : EntL ρ es xs) (j : Nat), EntL ρ (es.eraseIdx j) (xs.eraseIdx j)
  | [], _, h, _ => by simp only [EntL] at h; subst h; rfl
  | e0 :: es, _, h, 0 => by
    obtain ⟨y, ys, rfl, _, _, _, h4⟩ := h
    exact h4
  | e0 :: es, _, h, j + 1 => by
    obtain ⟨y, ys, rfl, g1, g2, g3, h4⟩ := h
    exact ⟨_, _, rfl, g1, g2, g3, h4.eraseIdx j⟩

theorem eqAt {kt : TypeId} {k e : AV} {r : Bool} {x y : Value} (hk : Rel ρ k x) (he : Rel ρ e y) (h : aeq P Op.maxDepth kt k e = some r) (w : World) : (Op.equal kt x y).run P w = .ok r w :=
  aeq_sound (P := P) (ρ := ρ) Op.maxDepth kt k e r x y w hk he h

theorem sameNow_eq {kt : TypeId} {u : TypeDesc} (hu : P.underlying kt = some u) {x y : Value} {r b : Bool} (h : ∀ w, (Op.equal kt x y).run P w = .ok r w) (hs : Instr.sameNow u x y = some b) : b = r := by
  have h0 := h default
  have key : ∀ q w, (Op.equalIn (9999 + 1) kt x y).run P w = .ok q w → q = r := fun q w hq => by
    have : (Op.equal kt x y).run P w = .ok q w := hq
    rw [h w] at this
    simpa using this.symm
  unfold Instr.sameNow at hs
  split at hs
  · rename_i k0 k a k' c
    by_cases e : k = k'
    · subst e
      simp at hs
      subst hs
      exact key _ default (run_equalIn_int default 9999 kt k k0 a c hu)
    · simp [e] at hs
  · cases hs
    rename_i a c
    have := key _ default (run_equalIn_string default 9999 kt a c hu)
    rw [← this, beq_toListBytes]
  · cases hs
    exact key _ default (run_equalIn_bool' default 9999 kt _ _ hu)
  · cases hs

def foundAt (r : Option (Nat × Ent)) (i : Nat) (xs : List MapEntry) (q : Option (Nat × Value)) : Prop :=
  match r with
  | none => q = none
  | some (j, _) => i ≤ j ∧ ∃ y, xs[j - i]? = some y ∧ q = some (j, y.val)

theorem aFind_asking {kt : TypeId} {k : AV} {x : Value} (hk : Rel ρ k x) : ∀ {es : List Ent} {xs : List MapEntry} {i : Nat} {r : Option (Nat × Ent)}, EntL ρ es xs → aFind P kt k es i = some r →
    ∃ q, (∀ w, (Instr.findAsking kt x xs i).run P w = .ok q w) ∧ foundAt r i xs q ∧ (∀ u q', P.underlying kt = some u → Instr.findNow u x xs i = some q' → q' = q) ∧
      (∀ j e, r = some (j, e) → es[j - i]? = some e)
  | [], _, i, r, he, h => by
    simp only [EntL] at he; subst he
    simp [aFind] at h; subst h
    exact ⟨none, fun w => rfl, rfl, fun u q' _ hq => by simp [Instr.findNow] at hq; exact hq.symm, fun j e h => by cases h⟩
  | e :: es, _, i, r, he, h => by
    obtain ⟨y, ys, rfl, h1, h2, h3, h4⟩ := he
    simp only [aFind] at h
    cases ha : aeq P Op.maxDepth kt k e.key with
    | none => simp [ha] at h
    | some b =>
      simp only [ha, Option.bind_some] at h
      have hq := fun w => eqAt hk h1 ha w
      cases b with
      | true =>
        simp at h
        subst h
        refine ⟨some (i, y.val), fun w => by simp [Instr.findAsking, hq], ⟨Nat.le_refl _, y, by simp, rfl⟩, fun u q' hu hn => ?_, fun j e' hj => by cases hj; simp⟩
        simp only [Instr.findNow] at hn
        cases hs : Instr.sameNow u x y.key with
        | none => simp [hs] at hn
        | some c =>
          have := sameNow_eq hu hq hs
          subst this
          simp [hs] at hn
          exact hn.symm
      | false =>
        simp only [cond_false] at h
        obtain ⟨q, g1, g2, g3, g4⟩ := aFind_asking hk h4 h
        refine ⟨q, fun w => by simp [Instr.findAsking, hq, g1], ?_, fun u q' hu hn => ?_, fun j e' hj => ?_⟩
        · unfold foundAt at g2 ⊢
          split
          · exact g2
          · obtain ⟨hle, z, hz, hqz⟩ := g2
            refine ⟨by omega, z, ?_, hqz⟩
            rename_i j e'
            rw [show j - i = (j - (i + 1)) + 1 by omega]
            simpa using hz
        · simp only [Instr.findNow] at hn
          cases hs : Instr.sameNow u x y.key with
          | none => simp [hs] at hn
          | some c =>
            have := sameNow_eq hu hq hs
            subst this
            simp only [hs] at hn
            exact g3 u q' hu hn
        · have hj' := g4 j e' hj
          have hle : i + 1 ≤ j := by
            rw [hj] at g2
            exact g2.1
          rw [show j - i = (j - (i + 1)) + 1 by omega]
          simpa using hj'

theorem findKey_sound {kt : TypeId} {u : TypeDesc} (hu : P.underlying kt = some u) {k : AV} {x : Value} (hk : Rel ρ k x) {es : List Ent} {xs : List MapEntry} {r : Option (Nat × Ent)} (he : EntL ρ es xs)
    (h : aFind P kt k es 0 = some r) : ∃ q, (Instr.findKey kt x xs).run P w = .ok q w ∧ foundAt r 0 xs q ∧ (∀ j e, r = some (j, e) → es[j]? = some e) := by
  obtain ⟨q, g1, g2, g3, g4⟩ := aFind_asking hk he h
  refine ⟨q, ?_, g2, fun j e hj => by simpa using g4 j e hj⟩
  simp only [Instr.findKey, Sem.run_bind, run_underlying hu, Result.andThen_ok]
  cases hn : Instr.findNow u x xs 0 with
  | some q' => rw [g3 u q' hu hn]; rfl
  | none => exact g1 w

theorem aCheckF_sound (w : World) {chk : TypeId → AV → Bool} {d : Nat} {emp : Bool} (hc : ∀ (t : TypeId) (v : AV) (x : Value) (w : World), Rel ρ v x → chk t v = true → (Instr.checkKey emp d t x).run P w = .ok () w)
    {cs : List AV} {xs : Array Value} (hx : RelL ρ cs xs.toList) : ∀ {fs : List Field}, aCheckF P chk cs fs = true →
    (forIn fs PUnit.unit (fun f _ => if f.name ≠ "_" then (do
        let a ← part f.type xs f.offset
        Instr.checkKey emp d f.type a
        pure (ForInStep.yield PUnit.unit)) else pure (ForInStep.yield PUnit.unit)) : Sem PUnit).run P w = .ok PUnit.unit w
  | [], _ => by simp
  | f :: fs, h => by
    simp only [aCheckF, Bool.and_eq_true] at h
    have ih := aCheckF_sound w hc hx h.2
    cases hn : f.name == "_" with
    | true =>
      have hne : ¬ (f.name ≠ "_") := by simpa using hn
      simp only [List.forIn_cons, Sem.run_bind, if_neg hne, Sem.run_pure, Result.andThen_ok]
      exact ih
    | false =>
      have hne : f.name ≠ "_" := by simpa using hn
      have h1 := h.1
      simp only [hn, cond_false] at h1
      cases ha : apart P f.type cs f.offset with
      | none => simp [ha] at h1
      | some v =>
        simp only [ha] at h1
        obtain ⟨y, hy1, hy2⟩ := apart_sound (w := w) ha hx
        have := hc f.type v y w hy2 h1
        simp only [List.forIn_cons, Sem.run_bind, if_pos hne, hy1, Result.andThen_ok, this, Sem.run_pure]
        exact ih

theorem aCheckKey_sound (emp : Bool) : ∀ (d : Nat) (t : TypeId) (v : AV) (x : Value) (w : World), Rel ρ v x → aCheckKey P d t v = true → (Instr.checkKey emp d t x).run P w = .ok () w := by
  intro d
  induction d with
  | zero => intro t v x w _ h; simp [aCheckKey] at h
  | succ d ih =>
    intro t v x w hr h
    unfold aCheckKey at h
    split at h
    · cases h
    · cases h
    · rename_i fs cs hu
      simp only [Rel] at hr
      obtain ⟨xs, rfl, hx⟩ := hr
      have := aCheckF_sound (P := P) w (emp := emp) ih hx h
      simp only [Instr.checkKey, Sem.run_bind, run_underlying hu, Result.andThen_ok]
      rw [← Array.forIn_toList, this]
      rfl
    · cases h
    · rename_i u h1 h2 h3 hu h5
      simp only [Instr.checkKey, Sem.run_bind, run_underlying hu, Result.andThen_ok]
      cases u <;> first
        | rfl
        | exact (h1 _ rfl).elim
        | exact (h2 _ _ rfl).elim
        | exact (h3 _ rfl).elim
    · cases h

theorem bytes_self (a : ByteArray) : (a == a) = true := by rw [beq_toListBytes]; simp

theorem plainEqL_eq : ∀ {xs ys : List AV} {as bs : List Value}, RelL ρ xs as → RelL ρ ys bs → plainEq.plainEqL xs ys = true → as = bs ∧ ∀ n, (as.zip bs).all (fun (x, y) => Instr.sameBits n x y) = true
  | [], [], as, bs, h1, h2, _ => by simp only [RelL] at h1 h2; subst h1; subst h2; exact ⟨rfl, fun n => rfl⟩
  | x :: xs, [], _, _, _, _, h => by cases x <;> simp [plainEq.plainEqL] at h
  | [], y :: ys, _, _, _, _, h => by simp [plainEq.plainEqL] at h
  | x :: xs, y :: ys, as, bs, h1, h2, h => by
    obtain ⟨a, as', rfl, ha, h1⟩ := h1
    obtain ⟨b, bs', rfl, hb, h2⟩ := h2
    unfold plainEq.plainEqL at h
    split at h
    · rename_i e1 e2; cases e1
    · rename_i e1 e2; cases e1; cases e2
      simp only [Bool.and_eq_true, beq_iff_eq] at h
      obtain ⟨g1, g2⟩ := plainEqL_eq h1 h2 h.2
      simp only [Rel] at ha hb
      subst ha; subst hb; subst g1
      have := h.1; subst this
      exact ⟨rfl, fun n => by simp only [List.zip_cons_cons, List.all_cons, g2 n, Bool.and_true]; cases n <;> simp [Instr.sameBits, bytes_self]⟩
    · rename_i e1 e2; cases e1; cases e2
      simp only [Bool.and_eq_true, beq_iff_eq, decide_eq_true_eq] at h
      obtain ⟨g1, g2⟩ := plainEqL_eq h1 h2 h.2
      simp only [Rel] at ha hb
      subst ha; subst hb; subst g1
      obtain ⟨k1, k2⟩ := h.1
      subst k1; subst k2
      exact ⟨rfl, fun n => by simp only [List.zip_cons_cons, List.all_cons, g2 n, Bool.and_true]; cases n <;> simp [Instr.sameBits, bytes_self]⟩
    · rename_i e1 e2; cases e1; cases e2
      simp only [Bool.and_eq_true, eqB_eq, beq_iff_eq] at h
      obtain ⟨g1, g2⟩ := plainEqL_eq h1 h2 h.2
      simp only [Rel] at ha hb
      subst ha; subst hb; subst g1
      have := h.1; subst this
      exact ⟨rfl, fun n => by simp only [List.zip_cons_cons, List.all_cons, g2 n, Bool.and_true]; cases n <;> simp [Instr.sameBits, bytes_self]⟩
    · cases h

theorem plainEq_eq {a b : AV} {x y : Value} (ha : Rel ρ a x) (hb : Rel ρ b y) (h : plainEq a b = true) : x = y ∧ Instr.sameBits 10000 x y = true := by
  unfold plainEq at h
  split at h
  · simp only [Rel] at ha hb; subst ha; subst hb; simp at h; subst h; exact ⟨rfl, by simp [Instr.sameBits, bytes_self]⟩
  · simp only [Rel] at ha hb; subst ha; subst hb; simp at h; obtain ⟨rfl, rfl⟩ := h; exact ⟨rfl, by simp [Instr.sameBits, bytes_self]⟩
  · simp only [Rel] at ha hb; subst ha; subst hb; simp [eqB_eq] at h; subst h; exact ⟨rfl, by simp [Instr.sameBits, bytes_self]⟩
  · simp only [Rel] at ha hb
    obtain ⟨xs, rfl, hx⟩ := ha
    obtain ⟨ys, rfl, hy⟩ := hb
    obtain ⟨g1, g2⟩ := plainEqL_eq hx hy h
    have : xs = ys := Array.ext' g1
    subst this
    refine ⟨rfl, ?_⟩
    show Instr.sameBits (9999 + 1) (.agg xs) (.agg xs) = true
    simp only [Instr.sameBits, beq_self_eq_true, Bool.true_and]
    exact g2 9999
  · cases h


theorem aMap_sound (h : HR B ρ H w) {m : AV} {x : Value} {es : List Ent} (hm : Rel ρ m x) (ha : aMap H m = some es) :
    ∃ xs : Array MapEntry, EntL ρ es xs.toList ∧ (x = .map none ∧ xs = #[] ∨ ∃ b clock, x = .map (some b) ∧ w.heap[b]? = some (.map xs clock)) := by
  unfold aMap at ha
  split at ha
  · cases ha
    simp only [Rel] at hm
    exact ⟨#[], rfl, .inl ⟨hm, rfl⟩⟩
  · rename_i i
    simp only [Rel] at hm
    obtain ⟨e, he, rfl⟩ := hm
    split at ha
    · rename_i es' clock ho
      cases ha
      obtain ⟨hnb, hB, arr, h1, h2⟩ := h.at' ho he
      exact ⟨arr, h2, .inr ⟨_, _, rfl, h1⟩⟩
    · cases ha
  · cases ha

theorem run_getObj_map {b : Nat} {xs : Array MapEntry} {clock : Nat} (h : w.heap[b]? = some (.map xs clock)) : (getObj b).run P w = .ok (.map xs clock) w := by
  simp [getObj, Sem.run, h]

theorem run_setObj_map {b : Nat} {xs : Array MapEntry} {clock : Nat} (O : Obj) (h : w.heap[b]? = some (.map xs clock)) :
    (setObj b O).run P w = .ok () { w with heap := w.heap.setIfInBounds b O } := by
  simp [setObj, Sem.run, h]

theorem aLookup_sound (h : HR B ρ H w) {t : TypeId} {m k v : AV} {x y : Value} {ok : Bool} (hm : Rel ρ m x) (hk : Rel ρ k y) (hl : aLookup P H t m k ok = some v) :
    ∃ z, (Instr.lookup t x y ok).run P w = .ok z w ∧ Rel ρ v z := by
  unfold aLookup at hl
  cases hu : P.underlying t with
  | none => simp [hu] at hl
  | some d =>
    cases d <;> simp only [hu, Option.bind_some] at hl <;> try (cases hl; done)
    rename_i kt et
    cases ha : aMap H m with
    | none => simp [ha] at hl
    | some es =>
      simp only [ha, Option.bind_some] at hl
      cases hc : aCheckKey P keyDepth kt k with
      | false => simp [hc] at hl
      | true =>
        simp only [hc, cond_true] at hl
        cases hf : aFind P kt k es 0 with
        | none => simp [hf] at hl
        | some r =>
          simp only [hf, Option.bind_some] at hl
          obtain ⟨xs, hxs, hx⟩ := aMap_sound h hm ha
          have hck := fun emp => aCheckKey_sound (P := P) (ρ := ρ) emp keyDepth kt k y w hk hc
          obtain ⟨uk, huk⟩ : ∃ uk, P.underlying kt = some uk := by
            unfold keyDepth aCheckKey at hc
            cases hq : P.underlying kt with
            | none => rw [hq] at hc; cases hc
            | some uk => exact ⟨uk, rfl⟩
          obtain ⟨q, hq1, hq2, hq3⟩ := findKey_sound (w := w) huk hk hxs hf
          have hck' : (Instr.checkKey xs.isEmpty 10000 kt y).run P w = .ok () w := hck xs.isEmpty
          cases r with
          | none =>
            simp only [foundAt] at hq2
            subst hq2
            simp only [] at hl
            cases hz : zeroA P et with
            | none => simp [hz] at hl
            | some z =>
              obtain ⟨zv, hz1, hz2⟩ := zeroA_sound (w := w) hz ρ
              simp [hz] at hl
              rcases hx with ⟨rfl, rfl⟩ | ⟨b, clock, rfl, hb⟩
              · have hck0 : (Instr.checkKey true 10000 kt y).run P w = .ok () w := hck true
                have hq0 : (Instr.findKey kt y []).run P w = .ok none w := hq1
                cases ok <;> simp at hl <;> subst hl
                · exact ⟨zv, by simp [Instr.lookup, run_underlying hu, hck0, hq0, hz1] , hz2⟩
                · exact ⟨.tuple #[zv, .bool false], by simp [Instr.lookup, run_underlying hu, hck0, hq0, hz1], ⟨_, rfl, by simp [RelL, Rel, hz2]⟩⟩
              · cases ok <;> simp at hl <;> subst hl
                · exact ⟨zv, by simp [Instr.lookup, run_underlying hu, run_getObj_map hb, hck', hq1, hz1] , hz2⟩
                · exact ⟨.tuple #[zv, .bool false], by simp [Instr.lookup, run_underlying hu, run_getObj_map hb, hck', hq1, hz1], ⟨_, rfl, by simp [RelL, Rel, hz2]⟩⟩
          | some je =>
            obtain ⟨j, e⟩ := je
            simp only [foundAt] at hq2
            obtain ⟨_, ye, hye, hqe⟩ := hq2
            subst hqe
            obtain ⟨ye', hye', _, hval, _⟩ := hxs.get (hq3 j e rfl)
            have : ye' = ye := by rw [Nat.sub_zero, hye'] at hye; exact Option.some.inj hye
            subst this
            simp at hl
            rcases hx with ⟨rfl, rfl⟩ | ⟨b, clock, rfl, hb⟩
            · simp at hye'
            · cases ok <;> simp at hl <;> subst hl
              · exact ⟨ye'.val, by simp [Instr.lookup, run_underlying hu, run_getObj_map hb, hck', hq1] , hval⟩
              · exact ⟨.tuple #[ye'.val, .bool true], by simp [Instr.lookup, run_underlying hu, run_getObj_map hb, hck', hq1], ⟨_, rfl, by simp [RelL, Rel, hval]⟩⟩


theorem modify_toList (arr : Array MapEntry) (j : Nat) (f : MapEntry → MapEntry) (y : MapEntry) (h : arr.toList[j]? = some y) : (arr.modify j f).toList = arr.toList.set j (f y) := by
  apply List.ext_getElem?
  intro i
  have hj : j < arr.toList.length := (List.getElem?_eq_some_iff.1 h).1
  rw [Array.getElem?_toList, Array.getElem?_modify, List.getElem?_set]
  by_cases hi : j = i
  · subst hi
    rw [if_pos rfl, if_pos rfl, if_pos hj, ← Array.getElem?_toList, h]; rfl
  · rw [if_neg hi, if_neg hi, Array.getElem?_toList]

theorem findIdx_toList (arr : Array MapEntry) (p : MapEntry → Bool) : arr.findIdx? p = arr.toList.findIdx? p := by
  cases arr; simp

theorem obj_turn (h : HR B ρ H w) {i : Nat} {o o' : AObj} {e : At} (ho : H.get i = some o) (he : ρ.ats[i]? = some e) (hnb : e.nb = false) (hB : B ≤ e.b) (O : Obj)
    (hr : ∀ w' : World, w'.heap[e.b]? = some O → ORel ρ B w' e o') :
    HR B ρ (H.set i o') { w with heap := w.heap.setIfInBounds e.b O } ∧ Ext B ρ w ρ { w with heap := w.heap.setIfInBounds e.b O } := by
  have hlt := (h.at' ho he).lt hnb
  have h1 : ({ w with heap := w.heap.setIfInBounds e.b O } : World).heap.size = w.heap.size := by simp
  have h2 : ∀ k, k ≠ e.b → ({ w with heap := w.heap.setIfInBounds e.b O } : World).heap[k]? = w.heap[k]? := fun k hk => by
    show (w.heap.setIfInBounds e.b O)[k]? = _
    rw [Array.getElem?_setIfInBounds_ne (Ne.symm hk)]
  exact ⟨h.turn ho he hnb hB _ h1 h2 (hr _ (by show (w.heap.setIfInBounds e.b O)[e.b]? = _; simp [hlt])), Ext.turn (Env.blk_of he hnb) hB h1 h2 rfl rfl rfl⟩

theorem underlying_of_check {kt : TypeId} {k : AV} (hc : aCheckKey P keyDepth kt k = true) : ∃ uk, P.underlying kt = some uk := by
  unfold keyDepth aCheckKey at hc
  cases hq : P.underlying kt with
  | none => rw [hq] at hc; cases hc
  | some uk => exact ⟨uk, rfl⟩

theorem keyStays {a b : AV} {x y : Value} (ha : Rel ρ a x) (hb : Rel ρ b y) (h : plainEq a b = true) : (Instr.keyThatStays x y).run P w = .ok y w := by
  have := (plainEq_eq ha hb h).2
  simp [Instr.keyThatStays, this]

theorem aMapUpdate_sound (h : HR B ρ H w) {t : TypeId} {m k v : AV} {x y z : Value} {H' : Heap} (hm : Rel ρ m x) (hk : Rel ρ k y) (hv : Rel ρ v z) (hs : aMapUpdate P H t m k v = some H') :
    ∃ w', (Instr.mapUpdate t x y z).run P w = .ok () w' ∧ HR B ρ H' w' ∧ Ext B ρ w ρ w' := by
  unfold aMapUpdate at hs
  cases hu : P.underlying t with
  | none => simp [hu] at hs
  | some d =>
    simp only [hu, Option.bind_some] at hs
    split at hs
    · rename_i kt et i
      simp only [Rel] at hm
      obtain ⟨e, he, rfl⟩ := hm
      split at hs
      · rename_i es clock ho
        cases hc : aCheckKey P keyDepth kt k with
        | false => simp [hc] at hs
        | true =>
          simp only [hc, cond_true] at hs
          cases hf : aFind P kt k es 0 with
          | none => simp [hf] at hs
          | some r =>
            simp only [hf, Option.bind_some] at hs
            obtain ⟨hnb, hB, arr, h1, h2⟩ := h.at' ho he
            have hck : (Instr.checkKey false 10000 kt y).run P w = .ok () w := aCheckKey_sound (P := P) (ρ := ρ) false keyDepth kt k y w hk hc
            obtain ⟨uk, huk⟩ := underlying_of_check hc
            obtain ⟨q, hq1, hq2, hq3⟩ := findKey_sound (w := w) huk hk h2 hf
            cases r with
            | none =>
              simp only [foundAt] at hq2
              subst hq2
              simp at hs
              subst hs
              obtain ⟨g1, g2⟩ := obj_turn h ho he hnb hB (.map (arr.push { key := y, val := z, born := clock }) (clock + 1)) (o' := .map (es ++ [{ key := k, val := v, born := clock }]) (clock + 1))
                (fun w' hw' => ⟨hnb, hB, _, hw', by rw [Array.toList_push]; exact h2.append ⟨_, _, rfl, hk, hv, rfl, rfl⟩⟩)
              exact ⟨_, by simp [Instr.mapUpdate, run_underlying hu, run_getObj_map h1, hck, hq1, run_setObj_map _ h1], g1, g2⟩
            | some je =>
              obtain ⟨j, en⟩ := je
              simp only [foundAt] at hq2
              obtain ⟨_, ye, hye, hqe⟩ := hq2
              subst hqe
              cases hp : plainEq en.key k with
              | false => simp [hp] at hs
              | true =>
                simp [hp] at hs
                subst hs
                obtain ⟨ye', hye', hkey, hval, hborn⟩ := h2.get (hq3 j en rfl)
                have : ye' = ye := by rw [Nat.sub_zero, hye'] at hye; exact Option.some.inj hye
                subst this
                have hks := keyStays (P := P) (w := w) hkey hk hp
                have hgj : arr[j]? = some ye' := by simpa using hye'
                obtain ⟨g1, g2⟩ := obj_turn h ho he hnb hB (.map (arr.modify j fun e => { e with key := y, val := z }) clock) (o' := .map (es.set j { key := k, val := v, born := en.born }) clock)
                  (fun w' hw' => ⟨hnb, hB, _, hw', by
                    have hmod : (arr.modify j fun e => { e with key := y, val := z }).toList = arr.toList.set j { ye' with key := y, val := z } := by
                      exact modify_toList _ _ _ _ hye'
                    rw [hmod]
                    exact h2.set j hk hv hborn⟩)
                exact ⟨_, by simp [Instr.mapUpdate, run_underlying hu, run_getObj_map h1, hck, hq1, hgj, hks, run_setObj_map _ h1], g1, g2⟩
      · cases hs
    · cases hs

theorem aMapEntry_sound (h : HR B ρ H w) {t : TypeId} {m k : AV} {x y : Value} {r : AV × Heap} (hm : Rel ρ m x) (hk : Rel ρ k y) (hs : aMapEntry P H t m k = some r) :
    SV B P ρ w (Instr.mapEntry t x y) r.1 r.2 := by
  unfold aMapEntry at hs
  cases hu : P.underlying t with
  | none => simp [hu] at hs
  | some d =>
    simp only [hu, Option.bind_some] at hs
    split at hs
    · rename_i kt et i
      simp only [Rel] at hm
      obtain ⟨e, he, rfl⟩ := hm
      split at hs
      · rename_i es clock ho
        cases hc : aCheckKey P keyDepth kt k with
        | false => simp [hc] at hs
        | true =>
          simp only [hc, cond_true] at hs
          cases hf : aFind P kt k es 0 with
          | none => simp [hf] at hs
          | some r =>
            simp only [hf, Option.bind_some] at hs
            obtain ⟨hnb, hB, arr, h1, h2⟩ := h.at' ho he
            have hck : (Instr.checkKey false 10000 kt y).run P w = .ok () w := aCheckKey_sound (P := P) (ρ := ρ) false keyDepth kt k y w hk hc
            obtain ⟨uk, huk⟩ := underlying_of_check hc
            obtain ⟨q, hq1, hq2, hq3⟩ := findKey_sound (w := w) huk hk h2 hf
            cases r with
            | none =>
              simp only [foundAt] at hq2
              subst hq2
              simp only [] at hs
              cases hz : zeroA P et with
              | none => simp [hz] at hs
              | some z =>
                obtain ⟨zv, hz1, hz2⟩ := zeroA_sound (w := w) hz ρ
                simp [hz] at hs
                subst hs
                obtain ⟨g1, g2⟩ := obj_turn h ho he hnb hB (.map (arr.push { key := y, val := zv, born := clock }) (clock + 1)) (o' := .map (es ++ [{ key := k, val := z, born := clock }]) (clock + 1))
                  (fun w' hw' => ⟨hnb, hB, _, hw', by rw [Array.toList_push]; exact h2.append ⟨_, _, rfl, hk, hz2, rfl, rfl⟩⟩)
                exact ⟨.tuple #[zv, goInt clock], _, ρ, by simp [Instr.mapEntry, run_underlying hu, run_getObj_map h1, hck, hq1, hz1, run_setObj_map _ h1], g2, g1, ⟨_, rfl, by simp [RelL, Rel, hz2, goInt]⟩⟩
            | some je =>
              obtain ⟨j, en⟩ := je
              simp only [foundAt] at hq2
              obtain ⟨_, ye, hye, hqe⟩ := hq2
              subst hqe
              cases hp : plainEq en.key k with
              | false => simp [hp] at hs
              | true =>
                simp [hp] at hs
                subst hs
                obtain ⟨ye', hye', hkey, hval, hborn⟩ := h2.get (hq3 j en rfl)
                have : ye' = ye := by rw [Nat.sub_zero, hye'] at hye; exact Option.some.inj hye
                subst this
                have hks := keyStays (P := P) (w := w) hkey hk hp
                have hgj : arr[j]? = some ye' := by simpa using hye'
                obtain ⟨g1, g2⟩ := obj_turn h ho he hnb hB (.map (arr.modify j fun e => { e with key := y }) clock) (o' := .map (es.set j { key := k, val := en.val, born := en.born }) clock)
                  (fun w' hw' => ⟨hnb, hB, _, hw', by
                    have hmod : (arr.modify j fun e => { e with key := y }).toList = arr.toList.set j { ye' with key := y } := by
                      exact modify_toList _ _ _ _ hye'
                    rw [hmod]
                    exact h2.set j hk hval hborn⟩)
                exact ⟨.tuple #[ye'.val, goInt ye'.born], _, ρ, by simp [Instr.mapEntry, run_underlying hu, run_getObj_map h1, hck, hq1, hgj, hks, run_setObj_map _ h1], g2, g1, ⟨_, rfl, by simp [RelL, Rel, hval, goInt, hborn]⟩⟩
      · cases hs
    · cases hs

theorem findBorn_sound {n : Int} : ∀ {es : List Ent} {xs : List MapEntry} {i : Nat} {r : Nat × Ent}, EntL ρ es xs → findBorn n es i = some r →
    i ≤ r.1 ∧ es[r.1 - i]? = some r.2 ∧ xs.findIdx? (fun e => (e.born : Int) == n) = some (r.1 - i)
  | [], _, i, r, he, h => by simp [findBorn] at h
  | e :: es, _, i, r, he, h => by
    obtain ⟨y, ys, rfl, h1, h2, h3, h4⟩ := he
    simp only [findBorn] at h
    by_cases hb : (e.born : Int) = n
    · simp [hb] at h
      subst h
      simp [List.findIdx?_cons, h3, hb]
    · simp [hb] at h
      obtain ⟨g1, g2, g3⟩ := findBorn_sound h4 h
      refine ⟨by omega, ?_, ?_⟩
      · rw [show r.1 - i = (r.1 - (i + 1)) + 1 by omega]; simpa using g2
      · rw [List.findIdx?_cons]
        simp only [h3, beq_iff_eq, hb, if_false, g3, Option.map_some, Option.some.injEq]
        omega

theorem aEntryStore_sound (h : HR B ρ H w) {t : TypeId} {m s v : AV} {x y z : Value} {H' : Heap} (hm : Rel ρ m x) (hk : Rel ρ s y) (hv : Rel ρ v z) (hs : aEntryStore H m s v = some H') :
    ∃ w', (Instr.entryStore t x y z).run P w = .ok () w' ∧ HR B ρ H' w' ∧ Ext B ρ w ρ w' := by
  unfold aEntryStore at hs
  split at hs
  · rename_i i kd n
    simp only [Rel] at hm hk
    obtain ⟨e, he, rfl⟩ := hm
    subst hk
    split at hs
    · rename_i es clock ho
      cases hf : findBorn n es 0 with
      | none => simp [hf] at hs
      | some r =>
        simp [hf] at hs
        subst hs
        obtain ⟨hnb, hB, arr, h1, h2⟩ := h.at' ho he
        obtain ⟨_, f2, f3⟩ := findBorn_sound h2 hf
        obtain ⟨ye, hye, hkey, hval, hborn⟩ := h2.get f2
        rw [Nat.sub_zero] at f2 f3 hye
        have hgj : arr[r.1]? = some ye := by simpa using hye
        have hfi : arr.findIdx? (fun e => (e.born : Int) == n) = some r.1 := by
          rw [findIdx_toList]; exact f3
        obtain ⟨g1, g2⟩ := obj_turn h ho he hnb hB (.map (arr.modify r.1 fun e => { e with val := z }) clock) (o' := .map (es.set r.1 { key := r.2.key, val := v, born := r.2.born }) clock)
          (fun w' hw' => ⟨hnb, hB, _, hw', by
            have hmod : (arr.modify r.1 fun e => { e with val := z }).toList = arr.toList.set r.1 { ye with val := z } := by
              exact modify_toList _ _ _ _ hye
            rw [hmod]
            exact h2.set r.1 hkey hv hborn⟩)
        exact ⟨_, by simp [Instr.entryStore, run_getObj_map h1, asInt, asIntOf, hfi, run_setObj_map _ h1], g1, g2⟩
    · cases hs
  · cases hs

theorem aDelete_sound (h : HR B ρ H w) {t : TypeId} {m k : AV} {x y : Value} {H' : Heap} {ts : TypeId} {rest : List TypeId} (hm : Rel ρ m x) (hk : Rel ρ k y) (hs : aDelete P H t m k = some H') :
    ∃ w', (Builtin.delete_ (t :: rest).toArray ts #[x, y]).run P w = .ok (.tuple #[]) w' ∧ HR B ρ H' w' ∧ Ext B ρ w ρ w' := by
  unfold aDelete at hs
  cases hu : P.underlying t with
  | none => simp [hu] at hs
  | some d =>
    simp only [hu, Option.bind_some] at hs
    split at hs
    · rename_i kt et
      simp only [Rel] at hm
      subst hm
      cases hc : aCheckKey P keyDepth kt k with
      | false => simp [hc] at hs
      | true =>
        simp [hc] at hs
        subst hs
        have hck : (Instr.checkKey true 10000 kt y).run P w = .ok () w := aCheckKey_sound (P := P) (ρ := ρ) true keyDepth kt k y w hk hc
        exact ⟨w, by simp [Builtin.delete_, run_underlying hu, hck], h, Ext.refl _ _ _⟩
    · rename_i kt et i
      simp only [Rel] at hm
      obtain ⟨e, he, rfl⟩ := hm
      split at hs
      · rename_i es clock ho
        cases hc : aCheckKey P keyDepth kt k with
        | false => simp [hc] at hs
        | true =>
          simp only [hc, cond_true] at hs
          cases hf : aFind P kt k es 0 with
          | none => simp [hf] at hs
          | some r =>
            simp only [hf, Option.bind_some] at hs
            obtain ⟨hnb, hB, arr, h1, h2⟩ := h.at' ho he
            have hck : (Instr.checkKey arr.isEmpty 10000 kt y).run P w = .ok () w := aCheckKey_sound (P := P) (ρ := ρ) arr.isEmpty keyDepth kt k y w hk hc
            obtain ⟨uk, huk⟩ := underlying_of_check hc
            obtain ⟨q, hq1, hq2, hq3⟩ := findKey_sound (w := w) huk hk h2 hf
            cases r with
            | none =>
              simp only [foundAt] at hq2
              subst hq2
              simp at hs
              subst hs
              obtain ⟨g1, g2⟩ := obj_turn h ho he hnb hB (.map arr clock) (o' := .map es clock) (fun w' hw' => ⟨hnb, hB, _, hw', h2⟩)
              have hset : HR B ρ H { w with heap := w.heap.setIfInBounds e.b (.map arr clock) } := by
                refine h.heap ?_
                show w.heap.setIfInBounds e.b (.map arr clock) = w.heap
                apply Array.ext_getElem?
                intro j
                by_cases hj : j = e.b
                · subst hj; rw [h1]; simp [(h.at' ho he).lt (h.at' ho he).1]
                · rw [Array.getElem?_setIfInBounds_ne (Ne.symm hj)]
              exact ⟨_, by simp [Builtin.delete_, run_underlying hu, run_getObj_map h1, hck, hq1, run_setObj_map _ h1], hset, g2⟩
            | some je =>
              obtain ⟨j, en⟩ := je
              simp only [foundAt] at hq2
              obtain ⟨_, ye, hye, hqe⟩ := hq2
              subst hqe
              simp at hs
              subst hs
              have hj : j < arr.size := by
                have := (List.getElem?_eq_some_iff.1 hye).1
                simpa using this
              obtain ⟨g1, g2⟩ := obj_turn h ho he hnb hB (.map (arr.eraseIdxIfInBounds j) clock) (o' := .map (es.eraseIdx j) clock)
                (fun w' hw' => ⟨hnb, hB, _, hw', by
                  have : (arr.eraseIdxIfInBounds j).toList = arr.toList.eraseIdx j := by
                    simp [Array.eraseIdxIfInBounds, hj]
                  rw [this]
                  exact h2.eraseIdx j⟩)
              exact ⟨_, by simp [Builtin.delete_, run_underlying hu, run_getObj_map h1, hck, hq1, run_setObj_map _ h1], g1, g2⟩
      · cases hs
    · cases hs

end
end Go.AM
