/- THE ABSTRACT MACHINE, 23g: code told as one: sound. -/
import Derived.Test.YtdeoahhofhmgfaaAmH
import Derived.Test.YtdeoahhofhmgfaaAmF
set_option linter.unusedSimpArgs false
set_option linter.unusedVariables false
namespace Go.AM
open Go.RowKit

def MR.post (K : Nat) (R : MR) : Post := fun x fr H => ∃ o, (x, o) ∈ R.outs ∧ o.on ∧ Abs K fr H o.fr o.H

structure OutsOk (l : List (XT × Out)) : Prop where
  nd : (l.map (·.1)).Nodup
  ex : ∀ x o x' o', (x, o) ∈ l → (x', o') ∈ l → o.on → o'.on → x = x'

theorem XT.beq_eq {a b : XT} (h : XT.beq a b = true) : a = b := by
  unfold XT.beq at h
  split at h
  · rfl
  · rfl
  · rw [Nat.eq_of_beq_eq_true h]
  · cases h

theorem XT.beq_refl (a : XT) : XT.beq a a = true := by cases a <;> simp [XT.beq]

theorem XT.beq_ne {a b : XT} (h : XT.beq a b = false) : a ≠ b := fun e => by subst e; rw [XT.beq_refl] at h; cases h

instance : DecidableEq XT := fun a b => if h : XT.beq a b = true then isTrue (XT.beq_eq h) else isFalse fun e => by subst e; exact h (XT.beq_refl _)

theorem lkO_mem {x : XT} : ∀ {l : List (XT × Out)} {o : Out}, lkO x l = some o → (x, o) ∈ l
  | [], o, h => by cases h
  | p :: l, o, h => by
    unfold lkO at h
    cases hb : XT.beq p.1 x with
    | true => rw [hb, cond_true] at h; cases h; rw [← XT.beq_eq hb]; exact List.mem_cons_self ..
    | false => rw [hb, cond_false] at h; exact List.mem_cons_of_mem _ (lkO_mem h)

theorem lkO_none {x : XT} : ∀ {l : List (XT × Out)}, lkO x l = none → ∀ o, (x, o) ∉ l
  | [], h, o, hm => by cases hm
  | p :: l, h, o, hm => by
    unfold lkO at h
    cases hb : XT.beq p.1 x with
    | true => rw [hb, cond_true] at h; cases h
    | false =>
      rw [hb, cond_false] at h
      rcases List.mem_cons.1 hm with rfl | hm
      · rw [XT.beq_refl] at hb; cases hb
      · exact lkO_none h o hm

theorem dropO_mem {x : XT} : ∀ {l : List (XT × Out)} {q : XT × Out}, q ∈ dropO x l ↔ q ∈ l ∧ q.1 ≠ x
  | [], q => by simp [dropO]
  | p :: l, q => by
    unfold dropO
    cases hb : XT.beq p.1 x with
    | true =>
      rw [cond_true, dropO_mem, List.mem_cons]
      have e := XT.beq_eq hb
      constructor
      · rintro ⟨h1, h2⟩; exact ⟨.inr h1, h2⟩
      · rintro ⟨rfl | h1, h2⟩
        · exact (h2 e).elim
        · exact ⟨h1, h2⟩
    | false =>
      rw [cond_false, List.mem_cons, List.mem_cons, dropO_mem]
      have e := XT.beq_ne hb
      constructor
      · rintro (rfl | h)
        · exact ⟨.inl rfl, e⟩
        · exact ⟨.inr h.1, h.2⟩
      · rintro ⟨rfl | h1, h2⟩
        · exact .inl rfl
        · exact .inr ⟨h1, h2⟩

theorem dropO_sub {x : XT} : ∀ {l : List (XT × Out)}, (dropO x l).Sublist l
  | [] => by simp [dropO]
  | p :: l => by
    unfold dropO
    cases hb : XT.beq p.1 x with
    | true => rw [cond_true]; exact dropO_sub.trans (List.sublist_cons_self _ _)
    | false => rw [cond_false]; exact dropO_sub.cons_cons _

theorem nodup_unique : ∀ {l : List (XT × Out)}, (l.map (·.1)).Nodup → ∀ {x o o'}, (x, o) ∈ l → (x, o') ∈ l → o = o'
  | [], _, x, o, o', h, _ => by cases h
  | p :: l, hn, x, o, o', h, h' => by
    rw [List.map_cons, List.nodup_cons] at hn
    rcases List.mem_cons.1 h with e | g
    · rcases List.mem_cons.1 h' with e' | g'
      · rw [← e] at e'; cases e'; rfl
      · exact (hn.1 (List.mem_map.2 ⟨(x, o'), g', by rw [← e]⟩)).elim
    · rcases List.mem_cons.1 h' with e' | g'
      · exact (hn.1 (List.mem_map.2 ⟨(x, o), g, by rw [← e']⟩)).elim
      · exact nodup_unique hn.2 g g'

theorem OutsOk.drop {x : XT} {l : List (XT × Out)} (h : OutsOk l) : OutsOk (dropO x l) where
  nd := (dropO_sub.map _).nodup h.nd
  ex a o a' o' h1 h2 := h.ex a o a' o' (dropO_mem.1 h1).1 (dropO_mem.1 h2).1

theorem OutsOk.one (x : XT) (o : Out) : OutsOk [(x, o)] where
  nd := by simp
  ex a o a' o' h1 h2 := by
    rw [List.mem_singleton] at h1 h2
    cases h1; cases h2; intros; rfl

/-! ### Guards -/
section
variable {b : Bool} {g h : Option Bool}
theorem gL_on (e : b = true) : (gL b g).getD true = true ↔ g.getD true = true := by subst e; cases g <;> simp [gL]
theorem gL_off (e : b = false) : ¬ (gL b g).getD true = true := by subst e; cases g <;> simp [gL]
theorem gR_on (e : b = false) : (gR b g).getD true = true ↔ g.getD true = true := by subst e; cases g <;> simp [gR]
theorem gR_off (e : b = true) : ¬ (gR b g).getD true = true := by subst e; cases g <;> simp [gR]
theorem gB_on (e : b = true) : (gB b g h).getD true = true ↔ g.getD true = true := by subst e; cases g <;> cases h <;> simp [gB]
theorem gB_off (e : b = false) : (gB b g h).getD true = true ↔ h.getD true = true := by subst e; cases g <;> cases h <;> simp [gB]
end

/-! ### What is as it was -/
def Near (f f' : Fr) (m : Nat) : Prop := ∀ t w, m.testBit t = false → f'.get t = some w → f.get t = some w
def NearH (H H' : Heap) (m : Nat) : Prop := ∀ i o, i < H.next → m.testBit i = false → H'.get i = some o → H.get i = some o

theorem or_clean {a b i : Nat} : (a ||| b).testBit i = false ↔ a.testBit i = false ∧ b.testBit i = false := by
  rw [Nat.testBit_or, Bool.or_eq_false_iff]

/-- A way out, and where the code began. -/
structure OKeep (m : Nat) (f : Fr) (H : Heap) (o : Out) : Prop where
  fr : Near f o.fr m
  h : NearH H o.H o.H.d
  d : ∀ i, o.H.d.testBit i = false → H.d.testBit i = false
  n : H.next ≤ o.H.next
  ds : ∀ t, m.testBit t = false → o.ds.testBit t = false
  hs : ∀ i, o.H.d.testBit i = false → o.hs.testBit i = false

/-- Ways out, and where they parted. -/
def BaseAt (bf : Fr) (bH : Heap) (l : List (XT × Out)) : Prop := ∀ x o, (x, o) ∈ l → Near bf o.fr o.ds ∧ NearH bH o.H o.hs ∧ bH.next ≤ o.H.next

structure RKeep (m : Nat) (f : Fr) (H : Heap) (kb : Nat) (l : List (XT × Out)) : Prop where
  outs : ∀ x o, (x, o) ∈ l → OKeep m f H o
  base : ∃ bf bH, bH.next = kb ∧ BaseAt bf bH l
  kb : H.next ≤ kb

theorem BaseAt.mono {bf : Fr} {bH : Heap} {l l' : List (XT × Out)} (h : BaseAt bf bH l) (hs : ∀ p ∈ l', p ∈ l) : BaseAt bf bH l' := fun x o hm => h x o (hs _ hm)
theorem BaseAt.append {bf : Fr} {bH : Heap} {l l' : List (XT × Out)} (h : BaseAt bf bH l) (k : BaseAt bf bH l') : BaseAt bf bH (l ++ l') := fun x o hm => (List.mem_append.1 hm).elim (h x o) (k x o)

/-! ### Two lists of ways out -/
section
variable {b : Bool} {K : Nat}

/-- Two ways out that are told as one. -/
theorem join_two {bf : Fr} {bH : Heap} (hK : bH.next = K) {o1 o2 : Out} (h1 : Near bf o1.fr o1.ds ∧ NearH bH o1.H o1.hs ∧ bH.next ≤ o1.H.next) (h2 : Near bf o2.fr o2.ds ∧ NearH bH o2.H o2.hs ∧ bH.next ≤ o2.H.next)
    {s : Fr × Heap} (h : join b K (o1.ds ||| o2.ds) (o1.hs ||| o2.hs) o1.fr o1.H o2.fr o2.H = some s) : Joined b K (o1.ds ||| o2.ds) (o1.hs ||| o2.hs) o1.fr o1.H o2.fr o2.H s.1 s.2 :=
  join_ok (fr := s.1) (H := s.2) h (fun t u v ht hu hv => by
    obtain ⟨c1, c2⟩ := or_clean.1 ht
    have e1 := h1.1 t u c1 hu
    have e2 := h2.1 t v c2 hv
    rw [e1] at e2; exact Option.some.inj e2) (fun i o o' hi ht ho ho' => by
    obtain ⟨c1, c2⟩ := or_clean.1 ht
    have e1 := h1.2.1 i o (hK ▸ hi) c1 ho
    have e2 := h2.2.1 i o' (hK ▸ hi) c2 ho'
    rw [e1] at e2; exact Option.some.inj e2)

theorem joined_base {bf : Fr} {bH : Heap} (hK : bH.next = K) {o1 o2 : Out} (h1 : Near bf o1.fr o1.ds ∧ NearH bH o1.H o1.hs ∧ bH.next ≤ o1.H.next) {g : Option Bool}
    {s : Fr × Heap} (j : Joined b K (o1.ds ||| o2.ds) (o1.hs ||| o2.hs) o1.fr o1.H o2.fr o2.H s.1 s.2) : Near bf s.1 (o1.ds ||| o2.ds) ∧ NearH bH s.2 (o1.hs ||| o2.hs) ∧ bH.next ≤ s.2.next :=
  ⟨fun t w ht hw => h1.1 t w (or_clean.1 ht).1 (j.keep t w hw ht), fun i o hi ht ho => h1.2.1 i o hi (or_clean.1 ht).1 (j.keepH i o ho (hK ▸ hi) ht), hK ▸ j.next⟩

theorem joined_keep {m : Nat} {f : Fr} {H : Heap} (hH : H.next ≤ K) {o1 o2 : Out} (h1 : OKeep m f H o1) (h2 : OKeep m f H o2) {g : Option Bool}
    {s : Fr × Heap} (j : Joined b K (o1.ds ||| o2.ds) (o1.hs ||| o2.hs) o1.fr o1.H o2.fr o2.H s.1 s.2) : OKeep m f H ⟨g, s.1, s.2, o1.ds ||| o2.ds, o1.hs ||| o2.hs⟩ where
  fr t w ht hw := h1.fr t w ht (j.keep t w hw (or_clean.2 ⟨h1.ds t ht, h2.ds t ht⟩))
  h i o hi ht ho := by
    simp only [j.d] at ht
    obtain ⟨c1, c2⟩ := or_clean.1 ht
    exact h1.h i o hi c1 (j.keepH i o ho (Nat.lt_of_lt_of_le hi hH) (or_clean.2 ⟨h1.hs i c1, h2.hs i c2⟩))
  d i ht := by
    simp only [j.d] at ht
    exact h1.d i (or_clean.1 ht).1
  n := Nat.le_trans hH j.next
  ds t ht := or_clean.2 ⟨h1.ds t ht, h2.ds t ht⟩
  hs i ht := by
    simp only [j.d] at ht
    obtain ⟨c1, c2⟩ := or_clean.1 ht
    exact or_clean.2 ⟨h1.hs i c1, h2.hs i c2⟩

theorem joinL_keys : ∀ {L2 L1 L : List (XT × Out)}, joinL b K L2 L1 = some L → L.map (·.1) = L1.map (·.1)
  | L2, [], L, h => by simp only [joinL, Option.some.injEq] at h; subst h; rfl
  | L2, p :: l, L, h => by
    unfold joinL at h
    split at h
    · rw [Option.map_eq_some_iff] at h
      obtain ⟨L', h, rfl⟩ := h
      simp [joinL_keys h]
    · split at h
      · cases h
      · rw [Option.map_eq_some_iff] at h
        obtain ⟨L', h, rfl⟩ := h
        simp [joinL_keys h]

/-- Where each of the ways out that are told as one comes from. -/
theorem joinL_src {bf : Fr} {bH : Heap} (hK : bH.next = K) : ∀ {L2 L1 L : List (XT × Out)}, joinL b K L2 L1 = some L → BaseAt bf bH L1 → BaseAt bf bH L2 → ∀ {x o}, (x, o) ∈ L →
    (∃ o1, (x, o1) ∈ L1 ∧ lkO x L2 = none ∧ o = { o1 with g := gL b o1.g }) ∨
    (∃ (o1 o2 : Out) (s : Fr × Heap), (x, o1) ∈ L1 ∧ lkO x L2 = some o2 ∧ Joined b K (o1.ds ||| o2.ds) (o1.hs ||| o2.hs) o1.fr o1.H o2.fr o2.H s.1 s.2 ∧ o = ⟨gB b o1.g o2.g, s.1, s.2, o1.ds ||| o2.ds, o1.hs ||| o2.hs⟩)
  | L2, [], L, h, _, _, x, o, hm => by simp only [joinL, Option.some.injEq] at h; subst h; cases hm
  | L2, p :: l, L, h, b1, b2, x, o, hm => by
    have tail : ∀ {L'}, joinL b K L2 l = some L' → (x, o) ∈ L' → _ := fun {L'} h hm => joinL_src hK h (b1.mono fun q hq => List.mem_cons_of_mem _ hq) b2 (x := x) (o := o) hm
    unfold joinL at h
    split at h
    · rename_i hn
      rw [Option.map_eq_some_iff] at h
      obtain ⟨L', h, rfl⟩ := h
      rcases List.mem_cons.1 hm with hm | hm
      · cases hm; exact .inl ⟨_, List.mem_cons_self .., hn, rfl⟩
      · rcases tail h hm with ⟨o1, k1, k2⟩ | ⟨o1, o2, s, k1, k2⟩
        · exact .inl ⟨o1, List.mem_cons_of_mem _ k1, k2⟩
        · exact .inr ⟨o1, o2, s, List.mem_cons_of_mem _ k1, k2⟩
    · rename_i o2 hl
      split at h
      · cases h
      · rename_i s hj
        rw [Option.map_eq_some_iff] at h
        obtain ⟨L', h, rfl⟩ := h
        rcases List.mem_cons.1 hm with hm | hm
        · cases hm
          exact .inr ⟨p.2, o2, s, List.mem_cons_self .., hl, join_two hK (b1 p.1 p.2 (List.mem_cons_self ..)) (b2 p.1 o2 (lkO_mem hl)) hj, rfl⟩
        · rcases tail h hm with ⟨o1, k1, k2⟩ | ⟨o1, o2, s, k1, k2⟩
          · exact .inl ⟨o1, List.mem_cons_of_mem _ k1, k2⟩
          · exact .inr ⟨o1, o2, s, List.mem_cons_of_mem _ k1, k2⟩

theorem joinL_fwd {bf : Fr} {bH : Heap} (hK : bH.next = K) : ∀ {L2 L1 L : List (XT × Out)}, joinL b K L2 L1 = some L → BaseAt bf bH L1 → BaseAt bf bH L2 → ∀ {x o1}, (x, o1) ∈ L1 → ∃ o, (x, o) ∈ L ∧
    ∀ K', K' ≤ K → (b = true → o1.on → o.on ∧ Abs K' o1.fr o1.H o.fr o.H) ∧ ∀ o2, b = false → lkO x L2 = some o2 → o2.on → o.on ∧ Abs K' o2.fr o2.H o.fr o.H
  | L2, [], L, h, _, _, x, o1, hm => by cases hm
  | L2, p :: l, L, h, b1, b2, x, o1, hm => by
    have tail : ∀ {L'}, joinL b K L2 l = some L' → (x, o1) ∈ l → _ := fun {L'} h hm => joinL_fwd hK h (b1.mono fun q hq => List.mem_cons_of_mem _ hq) b2 (x := x) (o1 := o1) hm
    unfold joinL at h
    split at h
    · rename_i hn
      rw [Option.map_eq_some_iff] at h
      obtain ⟨L', h, rfl⟩ := h
      rcases List.mem_cons.1 hm with rfl | hm
      · exact ⟨_, List.mem_cons_self .., fun K' _ => ⟨fun e ho => ⟨(gL_on e).2 ho, Abs.refl _ _ _⟩, fun o2 e hl => by rw [hn] at hl; cases hl⟩⟩
      · obtain ⟨o, h1, h2⟩ := tail h hm
        exact ⟨o, List.mem_cons_of_mem _ h1, h2⟩
    · rename_i o2 hl
      split at h
      · cases h
      · rename_i s hj
        rw [Option.map_eq_some_iff] at h
        obtain ⟨L', h, rfl⟩ := h
        rcases List.mem_cons.1 hm with rfl | hm
        · have j := join_two hK (b1 x o1 (List.mem_cons_self ..)) (b2 x o2 (lkO_mem hl)) hj
          exact ⟨_, List.mem_cons_self .., fun K' hk => ⟨fun e ho => ⟨(gB_on e).2 ho, (j.one e).le hk j.next1⟩, fun o2' e hl' ho => by rw [hl] at hl'; cases hl'; exact ⟨(gB_off e).2 ho, (j.two e).le hk j.next2⟩⟩⟩
        · obtain ⟨o, h1, h2⟩ := tail h hm
          exact ⟨o, List.mem_cons_of_mem _ h1, h2⟩

theorem restL_mem {L1 : List (XT × Out)} : ∀ {L2 : List (XT × Out)} {x o}, (x, o) ∈ restL b L1 L2 → ∃ o2, (x, o2) ∈ L2 ∧ lkO x L1 = none ∧ o = { o2 with g := gR b o2.g }
  | [], x, o, h => by cases h
  | p :: l, x, o, h => by
    unfold restL at h
    split at h
    · rename_i hn
      rcases List.mem_cons.1 h with h | h
      · cases h; exact ⟨_, List.mem_cons_self .., hn, rfl⟩
      · obtain ⟨o2, h1, h2⟩ := restL_mem h; exact ⟨o2, List.mem_cons_of_mem _ h1, h2⟩
    · obtain ⟨o2, h1, h2⟩ := restL_mem h; exact ⟨o2, List.mem_cons_of_mem _ h1, h2⟩

theorem restL_of {L1 : List (XT × Out)} : ∀ {L2 : List (XT × Out)} {x o2}, (x, o2) ∈ L2 → lkO x L1 = none → (x, ({ o2 with g := gR b o2.g } : Out)) ∈ restL b L1 L2
  | [], x, o, h, _ => by cases h
  | p :: l, x, o, h, hn => by
    unfold restL
    rcases List.mem_cons.1 h with rfl | h
    · rw [hn]; exact List.mem_cons_self ..
    · split
      · exact List.mem_cons_of_mem _ (restL_of h hn)
      · exact restL_of h hn

theorem restL_keys {L1 : List (XT × Out)} : ∀ {L2 : List (XT × Out)}, ((restL b L1 L2).map (·.1)).Sublist (L2.map (·.1))
  | [] => by simp [restL]
  | p :: l => by
    unfold restL
    split
    · simp only [List.map_cons]; exact restL_keys.cons_cons _
    · simp only [List.map_cons]; exact restL_keys.trans (List.sublist_cons_self _ _)

/-- Two lists told as one. -/
structure JL (b : Bool) (K : Nat) (L1 L2 L : List (XT × Out)) : Prop where
  one : ∀ K', K' ≤ K → b = true → ∀ x o1, (x, o1) ∈ L1 → o1.on → ∃ o, (x, o) ∈ L ∧ o.on ∧ Abs K' o1.fr o1.H o.fr o.H
  two : ∀ K', K' ≤ K → b = false → ∀ x o2, (x, o2) ∈ L2 → o2.on → ∃ o, (x, o) ∈ L ∧ o.on ∧ Abs K' o2.fr o2.H o.fr o.H
  ok : OutsOk L
  base : ∀ bf bH, bH.next = K → BaseAt bf bH L1 → BaseAt bf bH L2 → BaseAt bf bH L
  keep : ∀ m f H, H.next ≤ K → (∀ x o, (x, o) ∈ L1 → OKeep m f H o) → (∀ x o, (x, o) ∈ L2 → OKeep m f H o) → ∀ x o, (x, o) ∈ L → OKeep m f H o

theorem OKeep.guard {m : Nat} {f : Fr} {H : Heap} {o : Out} (h : OKeep m f H o) (g : Option Bool) : OKeep m f H { o with g := g } := ⟨h.fr, h.h, h.d, h.n, h.ds, h.hs⟩

theorem joinLs_ok {L1 L2 L : List (XT × Out)} (h : joinLs b K L1 L2 = some L) (h1 : OutsOk L1) (h2 : OutsOk L2) (hb : ∃ bf bH, bH.next = K ∧ BaseAt bf bH L1 ∧ BaseAt bf bH L2) : JL b K L1 L2 L := by
  unfold joinLs at h
  rw [Option.map_eq_some_iff] at h
  obtain ⟨l, h, rfl⟩ := h
  obtain ⟨bf, bH, hK, b1, b2⟩ := hb
  have src : ∀ {x o}, (x, o) ∈ l ++ restL b L1 L2 → (∃ o1, (x, o1) ∈ L1 ∧ lkO x L2 = none ∧ o = { o1 with g := gL b o1.g }) ∨
      (∃ (o1 o2 : Out) (s : Fr × Heap), (x, o1) ∈ L1 ∧ lkO x L2 = some o2 ∧ Joined b K (o1.ds ||| o2.ds) (o1.hs ||| o2.hs) o1.fr o1.H o2.fr o2.H s.1 s.2 ∧ o = ⟨gB b o1.g o2.g, s.1, s.2, o1.ds ||| o2.ds, o1.hs ||| o2.hs⟩) ∨
      ∃ o2, (x, o2) ∈ L2 ∧ lkO x L1 = none ∧ o = { o2 with g := gR b o2.g } := fun {x o} hm => by
    rcases List.mem_append.1 hm with hm | hm
    · rcases joinL_src hK h b1 b2 hm with k | k
      · exact .inl k
      · exact .inr (.inl k)
    · exact .inr (.inr (restL_mem hm))
  have bwd : ∀ {x o}, (x, o) ∈ l ++ restL b L1 L2 → o.on → (b = true → ∃ o1, (x, o1) ∈ L1 ∧ o1.on) ∧ (b = false → ∃ o2, (x, o2) ∈ L2 ∧ o2.on) := fun {x o} hm ho => by
    rcases src hm with ⟨o1, k1, k2, rfl⟩ | ⟨o1, o2, s, k1, k2, k3, rfl⟩ | ⟨o2, k1, k2, rfl⟩
    · exact ⟨fun e => ⟨o1, k1, (gL_on e).1 ho⟩, fun e => (gL_off e ho).elim⟩
    · exact ⟨fun e => ⟨o1, k1, (gB_on e).1 ho⟩, fun e => ⟨o2, lkO_mem k2, (gB_off e).1 ho⟩⟩
    · exact ⟨fun e => (gR_off e ho).elim, fun e => ⟨o2, k1, (gR_on e).1 ho⟩⟩
  refine ⟨fun K' hk e x o1 hm ho => ?_, fun K' hk e x o2 hm ho => ?_, ⟨?_, fun x o x' o' hm hm' ho ho' => ?_⟩, fun bf bH hK b1 b2 x o hm => ?_, fun m f H hH k1 k2 x o hm => ?_⟩
  · obtain ⟨o, g1, g2⟩ := joinL_fwd hK h b1 b2 hm
    exact ⟨o, List.mem_append_left _ g1, (g2 K' hk).1 e ho⟩
  · cases hl : lkO x L1 with
    | none => exact ⟨_, List.mem_append_right _ (restL_of hm hl), (gR_on e).2 ho, Abs.refl _ _ _⟩
    | some o1 =>
      obtain ⟨o, g1, g2⟩ := joinL_fwd hK h b1 b2 (lkO_mem hl)
      cases hl2 : lkO x L2 with
      | none => exact (lkO_none hl2 _ hm).elim
      | some o2' =>
        have := nodup_unique h2.nd hm (lkO_mem hl2)
        subst this
        exact ⟨o, List.mem_append_left _ g1, (g2 K' hk).2 _ e hl2 ho⟩
  · rw [List.map_append, List.nodup_append]
    refine ⟨by rw [joinL_keys h]; exact h1.nd, restL_keys.nodup h2.nd, fun a ha c hc e => ?_⟩
    subst e
    obtain ⟨⟨x, o⟩, hm, rfl⟩ := List.mem_map.1 hc
    obtain ⟨o2, _, k2, _⟩ := restL_mem hm
    rw [joinL_keys h] at ha
    obtain ⟨⟨y, o3⟩, hm2, e2⟩ := List.mem_map.1 ha
    simp only at e2
    subst e2
    exact lkO_none k2 _ hm2
  · obtain ⟨p1, p2⟩ := bwd hm ho
    obtain ⟨q1, q2⟩ := bwd hm' ho'
    rcases Bool.eq_false_or_eq_true b with e | e
    · obtain ⟨a, a1, a2⟩ := p1 e
      obtain ⟨c, c1, c2⟩ := q1 e
      exact h1.ex _ _ _ _ a1 c1 a2 c2
    · obtain ⟨a, a1, a2⟩ := p2 e
      obtain ⟨c, c1, c2⟩ := q2 e
      exact h2.ex _ _ _ _ a1 c1 a2 c2
  · rcases src hm with ⟨o1, k1, k2, rfl⟩ | ⟨o1, o2, s, k1, k2, k3, rfl⟩ | ⟨o2, k1, k2, rfl⟩
    · exact b1 x o1 k1
    · exact joined_base hK (b1 x o1 k1) (g := none) k3
    · exact b2 x o2 k1
  · rcases src hm with ⟨o1, g1, g2, rfl⟩ | ⟨o1, o2, s, g1, g2, g3, rfl⟩ | ⟨o2, g1, g2, rfl⟩
    · exact (k1 x o1 g1).guard _
    · exact joined_keep hH (k1 x o1 g1) (k2 x o2 (lkO_mem g2)) g3
    · exact (k2 x o2 g1).guard _
end

theorem andOb_inv {p q : Option Prop} (h : obOk (andOb p q)) : obOk p ∧ obOk q := by
  cases p <;> cases q <;> simp [andOb, obOk] at h ⊢ <;> exact h
theorem impOb_inv {g : Bool} {p : Option Prop} (h : obOk (impOb g p)) (e : g = true) : obOk p := by
  cases p with
  | none => trivial
  | some p => exact h e
theorem iteOb_inv {b : Bool} {p q : Option Prop} (h : obOk (iteOb b p q)) : (b = true → obOk p) ∧ (b = false → obOk q) := by
  cases p <;> cases q <;> simp only [iteOb, obOk] at h ⊢
  · exact ⟨fun _ => trivial, fun _ => trivial⟩
  · exact ⟨fun _ => trivial, h⟩
  · exact ⟨h, fun _ => trivial⟩
  · exact h


/-- A result is right: how the ways out lie; what they say of the code. -/
structure ROk (m : Nat) (f : Fr) (H : Heap) (R : MR) (W : Nat → Post → Prop) : Prop where
  ok : OutsOk R.outs
  keep : RKeep m f H R.kb R.outs
  w : obOk R.ob → ∀ K, K ≤ H.next → W K (R.post K)

def Mono (W : Nat → Post → Prop) : Prop := ∀ K (Q Q' : Post), (∀ x fr H, Q x fr H → Q' x fr H) → W K Q → W K Q'

theorem Near.refl (f : Fr) (m : Nat) : Near f f m := fun _ _ _ h => h
theorem NearH.refl (H : Heap) (m : Nat) : NearH H H m := fun _ _ _ _ h => h

theorem OKeep.refl (m : Nat) (f : Fr) (H : Heap) (g : Option Bool) : OKeep m f H ⟨g, f, H, 0, 0⟩ :=
  ⟨Near.refl _ _, NearH.refl _ _, fun _ h => h, Nat.le_refl _, fun _ _ => Nat.zero_testBit _, fun _ _ => Nat.zero_testBit _⟩

theorem RKeep.one (m : Nat) (f : Fr) (H : Heap) (x : XT) (g : Option Bool) : RKeep m f H H.next [(x, ⟨g, f, H, 0, 0⟩)] where
  outs y o hm := by rw [List.mem_singleton] at hm; cases hm; exact OKeep.refl ..
  base := ⟨f, H, rfl, fun y o hm => by rw [List.mem_singleton] at hm; cases hm; exact ⟨Near.refl _ _, NearH.refl _ _, Nat.le_refl _⟩⟩
  kb := Nat.le_refl _

/-- One step ahead. -/
structure Step (m : Nat) (f : Fr) (H : Heap) (f' : Fr) (H' : Heap) : Prop where
  fr : Near f f' m
  h : NearH H H' H'.d
  d : ∀ i, H'.d.testBit i = false → H.d.testBit i = false
  n : H.next ≤ H'.next

theorem Step.refl (m : Nat) (f : Fr) (H : Heap) : Step m f H f H := ⟨Near.refl _ _, NearH.refl _ _, fun _ h => h, Nat.le_refl _⟩
theorem Step.of_kp {m : Nat} {f f' : Fr} {H H' : Heap} (h : H.Kp H') (hf : Near f f' m) : Step m f H f' H' := ⟨hf, fun i o _ hi ho => by rw [h.get i hi] at ho; exact ho, h.bit, h.next⟩
theorem OKeep.step {m : Nat} {f : Fr} {H : Heap} {o : Out} (h : OKeep m f H o) : Step m f H o.fr o.H := ⟨h.fr, h.h, h.d, h.n⟩

theorem OKeep.trans {m1 m2 m : Nat} {f f' : Fr} {H H' : Heap} {o : Out} (h : Step m1 f H f' H') (k : OKeep m2 f' H' o) (e1 : ∀ t, m.testBit t = false → m1.testBit t = false) (e2 : ∀ t, m.testBit t = false → m2.testBit t = false) : OKeep m f H o where
  fr t w ht hw := h.fr t w (e1 t ht) (k.fr t w (e2 t ht) hw)
  h i o' hi ht ho := h.h i o' hi (k.d i ht) (k.h i o' (Nat.lt_of_lt_of_le hi h.n) ht ho)
  d i ht := h.d i (k.d i ht)
  n := Nat.le_trans h.n k.n
  ds t ht := k.ds t (e2 t ht)
  hs := k.hs

theorem RKeep.trans {m1 m2 m : Nat} {f f' : Fr} {H H' : Heap} {kb : Nat} {l : List (XT × Out)} (h : Step m1 f H f' H') (k : RKeep m2 f' H' kb l) (e1 : ∀ t, m.testBit t = false → m1.testBit t = false) (e2 : ∀ t, m.testBit t = false → m2.testBit t = false) : RKeep m f H kb l :=
  ⟨fun x o hm => (k.outs x o hm).trans h e1 e2, k.base, Nat.le_trans h.n k.kb⟩

theorem Step.trans {m : Nat} {f f' f'' : Fr} {H H' H'' : Heap} (h : Step m f H f' H') (k : Step m f' H' f'' H'') : Step m f H f'' H'' :=
  ⟨fun t w ht hw => h.fr t w ht (k.fr t w ht hw), fun i o hi ht ho => h.h i o hi (k.d i ht) (k.h i o (Nat.lt_of_lt_of_le hi h.n) ht ho), fun i hi => h.d i (k.d i hi), Nat.le_trans h.n k.n⟩

/-- Told from further back. -/
theorem reb_keep {m1 m2 m dm h0 : Nat} {f f' : Fr} {H H' : Heap} {p : XT × Out} (h : Step m1 f H f' H') (k : OKeep m2 f' H'.fresh p.2) (e1 : ∀ t, m.testBit t = false → m1.testBit t = false) (e2 : ∀ t, m.testBit t = false → m2.testBit t = false)
    (e3 : ∀ t, m.testBit t = false → dm.testBit t = false) (e4 : ∀ i, H'.d.testBit i = false → h0.testBit i = false) : OKeep m f H (reb dm h0 H'.d p).2 where
  fr t w ht hw := h.fr t w (e1 t ht) (k.fr t w (e2 t ht) hw)
  h i o' hi ht ho := by
    obtain ⟨c1, c2⟩ := or_clean.1 (show (H'.d ||| p.2.H.d).testBit i = false from ht)
    exact h.h i o' hi c1 (k.h i o' (Nat.lt_of_lt_of_le hi h.n) c2 ho)
  d i ht := h.d i (or_clean.1 (show (H'.d ||| p.2.H.d).testBit i = false from ht)).1
  n := Nat.le_trans h.n k.n
  ds := e3
  hs i ht := by
    obtain ⟨c1, c2⟩ := or_clean.1 (show (H'.d ||| p.2.H.d).testBit i = false from ht)
    exact or_clean.2 ⟨e4 i c1, c2⟩

theorem reb_base {dm0 m2 h0 d0 : Nat} {bf f' : Fr} {bH H' : Heap} {p : XT × Out} (hf : Near bf f' dm0) (hh : NearH bH H' h0) (hn : bH.next ≤ H'.next) (k : OKeep m2 f' H'.fresh p.2) :
    Near bf (reb (dm0 ||| m2) h0 d0 p).2.fr (dm0 ||| m2) ∧ NearH bH (reb (dm0 ||| m2) h0 d0 p).2.H (h0 ||| p.2.H.d) ∧ bH.next ≤ (reb (dm0 ||| m2) h0 d0 p).2.H.next :=
  ⟨fun t w ht hw => hf t w (or_clean.1 ht).1 (k.fr t w (or_clean.1 ht).2 hw), fun i o hi ht ho => hh i o hi (or_clean.1 ht).1 (k.h i o (Nat.lt_of_lt_of_le hi hn) (or_clean.1 ht).2 ho), Nat.le_trans hn k.n⟩

theorem reb_outs {m h0 d0 : Nat} {l : List (XT × Out)} (h : OutsOk l) : OutsOk (l.map (reb m h0 d0)) where
  nd := by rw [List.map_map]; exact h.nd
  ex x o x' o' hm hm' ho ho' := by
    obtain ⟨p, hp, e⟩ := List.mem_map.1 hm
    obtain ⟨p', hp', e'⟩ := List.mem_map.1 hm'
    cases e; cases e'
    exact h.ex p.1 p.2 p'.1 p'.2 hp hp' ho ho'

theorem reb_mem {m h0 d0 : Nat} {l : List (XT × Out)} {x : XT} {o : Out} (h : (x, o) ∈ l) : (x, (reb m h0 d0 (x, o)).2) ∈ l.map (reb m h0 d0) := List.mem_map.2 ⟨_, h, rfl⟩

theorem reb_abs {m h0 d0 K : Nat} {p : XT × Out} {f : Fr} {H : Heap} (h : Abs K f H p.2.fr p.2.H) : Abs K f H (reb m h0 d0 p).2.fr (reb m h0 d0 p).2.H := h.mask rfl rfl rfl rfl

theorem ROk.one {m : Nat} {x : XT} {fr : Fr} {H : Heap} {W : Nat → Post → Prop} (h : ∀ K (Q : Post), Q x fr H → W K Q) : ROk m fr H (one x fr H) W :=
  ⟨OutsOk.one _ _, RKeep.one .., fun _ K _ => h K _ ⟨_, List.mem_cons_self .., rfl, Abs.refl _ _ _⟩⟩

/-- A fork. -/
theorem dJoin_ok {m m1 m2 : Nat} {b : Bool} {A C : Option MR} {R : MR} {fr f1 f2 : Fr} {H : Heap} {W : Nat → Post → Prop} (mono : Mono W) (h : dJoin b H.next H.d m A C = some R)
    (n1 : Near fr f1 m) (n2 : Near fr f2 m) (e1 : ∀ t, m.testBit t = false → m1.testBit t = false) (e2 : ∀ t, m.testBit t = false → m2.testBit t = false)
    (h1 : ∀ R1, A = some R1 → OutsOk R1.outs ∧ RKeep m1 f1 H.fresh R1.kb R1.outs ∧ (b = true → obOk R1.ob → ∀ K, K ≤ H.next → W K (R1.post K)))
    (h2 : ∀ R2, C = some R2 → OutsOk R2.outs ∧ RKeep m2 f2 H.fresh R2.kb R2.outs ∧ (b = false → obOk R2.ob → ∀ K, K ≤ H.next → W K (R2.post K))) : ROk m fr H R W := by
  unfold dJoin at h
  split at h
  · cases h
  · rename_i a
    split at h
    · cases h
    · rename_i c
      rw [Option.map_eq_some_iff] at h
      obtain ⟨l, h, rfl⟩ := h
      obtain ⟨a1, a2, a3⟩ := h1 a rfl
      obtain ⟨c1, c2, c3⟩ := h2 c rfl
      have s1 : Step m fr H f1 H := ⟨n1, NearH.refl _ _, fun _ h => h, Nat.le_refl _⟩
      have s2 : Step m fr H f2 H := ⟨n2, NearH.refl _ _, fun _ h => h, Nat.le_refl _⟩
      have base : ∀ {mm : Nat} {f : Fr} {l : List (XT × Out)}, Near fr f m → (∀ t, m.testBit t = false → mm.testBit t = false) → (∀ x o, (x, o) ∈ l → OKeep mm f H.fresh o) → BaseAt fr H (l.map (reb m 0 H.d)) := by
        intro mm f l hn he hk x o hm
        obtain ⟨p, hp, e⟩ := List.mem_map.1 hm
        cases e
        have k := hk p.1 p.2 hp
        exact ⟨fun t w ht hw => hn t w ht (k.fr t w (he t ht) hw), fun i o hi ht ho => k.h i o hi (or_clean.1 ht).2 ho, k.n⟩
      have b1 := base n1 e1 a2.outs
      have b2 := base n2 e2 c2.outs
      have J := joinLs_ok h (reb_outs a1) (reb_outs c1) ⟨fr, H, rfl, b1, b2⟩
      refine ⟨J.ok, ⟨fun x o hm => J.keep m fr H (Nat.le_refl _) ?_ ?_ x o hm, ⟨fr, H, rfl, J.base fr H rfl b1 b2⟩, Nat.le_refl _⟩, fun ho K hK => ?_⟩
      · intro x o hm
        obtain ⟨p, hp, e⟩ := List.mem_map.1 hm
        cases e
        exact reb_keep s1 (a2.outs p.1 p.2 hp) (fun t h => h) e1 (fun t h => h) fun i _ => Nat.zero_testBit _
      · intro x o hm
        obtain ⟨p, hp, e⟩ := List.mem_map.1 hm
        cases e
        exact reb_keep s2 (c2.outs p.1 p.2 hp) (fun t h => h) e2 (fun t h => h) fun i _ => Nat.zero_testBit _
      · obtain ⟨o1, o2⟩ := iteOb_inv ho
        rcases Bool.eq_false_or_eq_true b with e | e
        · refine mono K _ _ (fun x f' H' hp => ?_) (a3 e (o1 e) K hK)
          obtain ⟨o, p1, p2, p3⟩ := hp
          obtain ⟨o', q1, q2, q3⟩ := J.one K hK e x _ (reb_mem p1) p2
          exact ⟨o', q1, q2, (reb_abs (p := (x, o)) p3).trans q3⟩
        · refine mono K _ _ (fun x f' H' hp => ?_) (c3 e (o2 e) K hK)
          obtain ⟨o, p1, p2, p3⟩ := hp
          obtain ⟨o', q1, q2, q3⟩ := J.two K hK e x _ (reb_mem p1) p2
          exact ⟨o', q1, q2, (reb_abs (p := (x, o)) p3).trans q3⟩

theorem dSeq_ok {mx my m : Nat} {f : Fr} {H : Heap} {R R' : MR} {cont : Fr → Heap → Option MR} (h : dSeq my R cont = some R') (hR : OutsOk R.outs) (hk : RKeep mx f H R.kb R.outs) (e1 : ∀ t, m.testBit t = false → mx.testBit t = false) (e2 : ∀ t, m.testBit t = false → my.testBit t = false)
    (hc : ∀ o H' R2, (XT.nor, o) ∈ R.outs → cont o.fr H' = some R2 → OutsOk R2.outs ∧ RKeep my o.fr H' R2.kb R2.outs) :
    OutsOk R'.outs ∧ RKeep m f H R'.kb R'.outs ∧ (obOk R'.ob → obOk R.ob ∧ ∀ K, K ≤ H.next → (∀ x o, x ≠ .nor → (x, o) ∈ R.outs → o.on → ∃ o', (x, o') ∈ R'.outs ∧ o'.on ∧ Abs K o.fr o.H o'.fr o'.H) ∧
      ∀ o, (XT.nor, o) ∈ R.outs → o.on → ∃ H' R2, H'.t = o.H.t ∧ H'.next = o.H.next ∧ cont o.fr H' = some R2 ∧ obOk R2.ob ∧ ∀ x o2, (x, o2) ∈ R2.outs → o2.on → ∃ o', (x, o') ∈ R'.outs ∧ o'.on ∧ Abs K o2.fr o2.H o'.fr o'.H) := by
  unfold dSeq at h
  split at h
  · rename_i hn
    cases h
    exact ⟨hR, hk.trans (Step.refl mx _ _) e1 e1, fun ho => ⟨ho, fun K hK => ⟨fun x o _ hm hon => ⟨o, hm, hon, Abs.refl _ _ _⟩, fun o hm => (lkO_none hn _ hm).elim⟩⟩⟩
  · rename_i o hl
    have hmo := lkO_mem hl
    split at h
    · rename_i hg
      rw [Option.map_eq_some_iff] at h
      obtain ⟨R2, hcont, rfl⟩ := h
      have hon : o.on := by unfold Out.on; rw [hg]; rfl
      obtain ⟨c1, c2⟩ := hc o o.H R2 hmo hcont
      refine ⟨c1, c2.trans (hk.outs _ _ hmo).step e1 e2, fun ho => ?_⟩
      obtain ⟨o1, o2⟩ := andOb_inv ho
      refine ⟨o1, fun K hK => ⟨fun x o' hx hm ho' => (hx (hR.ex _ _ _ _ hm hmo ho' hon)).elim, fun o' hm _ => ?_⟩⟩
      have := nodup_unique hR.nd hmo hm
      subst this
      exact ⟨o.H, R2, rfl, rfl, hcont, o2, fun x o2 hm2 ho2 => ⟨o2, hm2, ho2, Abs.refl _ _ _⟩⟩
    · rename_i g hg
      split at h
      · cases h
      · rename_i R2 hcont
        rw [Option.map_eq_some_iff] at h
        obtain ⟨l, hj, rfl⟩ := h
        have hd := hR.drop (x := .nor)
        obtain ⟨c1, c2⟩ := hc o o.H.fresh R2 hmo hcont
        obtain ⟨bf, bH, hb1, hb2⟩ := hk.base
        obtain ⟨q1, q2, q3⟩ := hb2 _ _ hmo
        have hko := hk.outs _ _ hmo
        have b1 : BaseAt bf bH (R2.outs.map (reb (o.ds ||| my) o.hs o.H.d)) := fun x o' hm => by
          obtain ⟨p, hp, e⟩ := List.mem_map.1 hm
          cases e
          exact reb_base q1 q2 q3 (c2.outs p.1 p.2 hp)
        have b2 : BaseAt bf bH (dropO .nor R.outs) := hb2.mono fun p hp => (dropO_mem.1 hp).1
        have J := joinLs_ok hj (reb_outs c1) hd ⟨bf, bH, hb1, b1, b2⟩
        refine ⟨J.ok, ⟨fun x o' hm => J.keep m f H hk.kb ?_ ?_ x o' hm, ⟨bf, bH, hb1, J.base bf bH hb1 b1 b2⟩, hk.kb⟩, fun ho => ?_⟩
        · intro x o' hm
          obtain ⟨p, hp, e⟩ := List.mem_map.1 hm
          cases e
          exact reb_keep hko.step (c2.outs p.1 p.2 hp) e1 e2 (fun t ht => or_clean.2 ⟨hko.ds t (e1 t ht), e2 t ht⟩) hko.hs
        · intro x o' hm
          exact (hk.outs x o' (dropO_mem.1 hm).1).trans (Step.refl mx _ _) e1 e1
        · obtain ⟨o1, o2⟩ := andOb_inv ho
          refine ⟨o1, fun K hK => ⟨fun x o' hx hm ho' => ?_, fun o' hm hon => ?_⟩⟩
          · have hgf : g = false := by
              cases g with
              | false => rfl
              | true => exact (hx (hR.ex _ _ _ _ hm hmo ho' (by unfold Out.on; rw [hg]; rfl))).elim
            exact J.two K (Nat.le_trans hK hk.kb) hgf x o' (dropO_mem.2 ⟨hm, hx⟩) ho'
          · have := nodup_unique hR.nd hmo hm
            subst this
            have hgt : g = true := by unfold Out.on at hon; rw [hg] at hon; exact hon
            refine ⟨o.H.fresh, R2, rfl, rfl, hcont, impOb_inv o2 hgt, fun x o2 hm2 ho2 => ?_⟩
            obtain ⟨o', r1, r2, r3⟩ := J.one K (Nat.le_trans hK hk.kb) hgt x _ (reb_mem hm2) ho2
            exact ⟨o', r1, r2, (reb_abs (p := (x, o2)) (Abs.refl _ _ _)).trans r3⟩

theorem dBlk_ok {id m : Nat} {f : Fr} {H : Heap} {R R' : MR} (h : dBlk id R = some R') (hR : OutsOk R.outs) (hk : RKeep m f H R.kb R.outs) :
    OutsOk R'.outs ∧ RKeep m f H R'.kb R'.outs ∧ R'.ob = R.ob ∧ ∀ K, K ≤ H.next → ∀ x o, (x, o) ∈ R.outs → o.on → ∃ o', ((if x = .ex id then XT.nor else x), o') ∈ R'.outs ∧ o'.on ∧ Abs K o.fr o.H o'.fr o'.H := by
  unfold dBlk at h
  split at h
  · rename_i hn
    cases h
    refine ⟨hR, hk, rfl, fun K hK x o hm hon => ⟨o, ?_, hon, Abs.refl _ _ _⟩⟩
    rw [if_neg (fun e => by subst e; exact lkO_none hn o hm)]; exact hm
  · rename_i o hl
    have hmo := lkO_mem hl
    obtain ⟨bf, bH, hb1, hb2⟩ := hk.base
    split at h
    · rename_i hg
      cases h
      have hon : o.on := by unfold Out.on; rw [hg]; rfl
      refine ⟨OutsOk.one _ _, ⟨fun x o' hm => ?_, ⟨bf, bH, hb1, fun x o' hm => ?_⟩, hk.kb⟩, rfl, fun K hK x o' hm ho' => ?_⟩
      · rw [List.mem_singleton] at hm; cases hm; exact hk.outs _ _ hmo
      · rw [List.mem_singleton] at hm; cases hm; exact hb2 _ _ hmo
      · have hx := hR.ex _ _ _ _ hm hmo ho' hon
        subst hx
        have := nodup_unique hR.nd hmo hm
        subst this
        exact ⟨o, by rw [if_pos rfl]; exact List.mem_cons_self .., hon, Abs.refl _ _ _⟩
    · rename_i g hg
      rw [Option.map_eq_some_iff] at h
      obtain ⟨l, hj, rfl⟩ := h
      have hd := hR.drop (x := .ex id)
      have b1 : BaseAt bf bH [(XT.nor, ({ o with g := none } : Out))] := fun x o' hm => by rw [List.mem_singleton] at hm; cases hm; exact hb2 (.ex id) o hmo
      have b2 : BaseAt bf bH (dropO (.ex id) R.outs) := hb2.mono fun p hp => (dropO_mem.1 hp).1
      have J := joinLs_ok hj (OutsOk.one _ _) hd ⟨bf, bH, hb1, b1, b2⟩
      refine ⟨J.ok, ⟨fun x o' hm => J.keep m f H hk.kb ?_ ?_ x o' hm, ⟨bf, bH, hb1, J.base bf bH hb1 b1 b2⟩, hk.kb⟩, rfl, fun K hK x o' hm ho' => ?_⟩
      · intro x o' hm
        rw [List.mem_singleton] at hm; cases hm
        exact (hk.outs _ _ hmo).guard _
      · intro x o' hm; exact hk.outs x o' (dropO_mem.1 hm).1
      · by_cases hx : x = .ex id
        · subst hx
          have := nodup_unique hR.nd hmo hm
          subst this
          have hgt : g = true := by unfold Out.on at ho'; rw [hg] at ho'; exact ho'
          rw [if_pos rfl]
          exact J.one K (Nat.le_trans hK hk.kb) hgt .nor { o with g := none } (List.mem_cons_self ..) rfl
        · rw [if_neg hx]
          have hgf : g = false := by
            cases g with
            | false => rfl
            | true => exact (hx (hR.ex _ _ _ _ hm hmo ho' (by unfold Out.on; rw [hg]; rfl))).elim
          exact J.two K (Nat.le_trans hK hk.kb) hgf x o' (dropO_mem.2 ⟨hm, hx⟩) ho'

/-! ### Code -/
section
variable {P : Program} {B : Nat} {r : Option Nat} {n : Nat} {fr : Fr} {H : Heap} {S : SumP} {rc : MC} {ops : Array Oper}

def WCL (P : Program) (B : Nat) (begun : Bool) (K : Nat) (r : Option Nat) (n : Nat) (c : Code) (fr : Fr) (H : Heap) (Q : Post) : Prop := match begun with
  | true => WL P B K r n c fr H Q
  | false => WC P B K r n c fr H Q

def DSound (P : Program) (B : Nat) (rc : MC) : Prop := ∀ begun n c fr H R, rc begun n c fr H = some R → ∀ r, ROk (dmask c) fr H R fun K => WCL P B begun K r n c fr H

theorem forced_eq {c : Fr → Heap → Option MR} : forced fr H c = c fr H := by unfold forced; rw [forceS_eq]

/-- From one state to what is reached from where it is told otherwise. -/
theorem post_of {K : Nat} {R2 R' : MR} (hk : ∀ x o2, (x, o2) ∈ R2.outs → o2.on → ∃ o', (x, o') ∈ R'.outs ∧ o'.on ∧ Abs K o2.fr o2.H o'.fr o'.H) : ∀ x fr H, R2.post K x fr H → R'.post K x fr H := fun x fr H ⟨o2, k1, k2, k3⟩ =>
  let ⟨o', m1, m2, m3⟩ := hk x o2 k1 k2; ⟨o', m1, m2, k3.trans m3⟩

/-- The mask is nobody's. -/
theorem WF.mask {f : FuncId} {args : List AV} {v : AV} {H' H2 : Heap} (h : WF P B f args H fun v' Hx => v' = v ∧ Hx = H') (ht : H2.t = H'.t) (hn : H2.next = H'.next) : WF P B f args H fun v' Hx => v' = v ∧ Hx = H2 :=
  fun ρ w xs h1 h2 => (h ρ w xs h1 h2).mono fun e w' ⟨v', x, Hx, ρ', g1, ⟨g2, g3⟩, g4, g5, g6⟩ => ⟨v', x, H2, ρ', g1, ⟨g2, rfl⟩, g4, by subst g3; exact g5.mask ht hn, g6⟩

/-- A call, told as one. -/
structure FOk (P : Program) (B : Nat) (f : FuncId) (args : List AV) (H : Heap) (ob : Option Prop) (v : AV) (H' : Heap) : Prop where
  step : ∀ m f, Step m f H f H'
  w : obOk ob → WF P B f args H fun v' H2 => v' = v ∧ H2 = H'

theorem ones_bit {n i : Nat} (hi : i < n) : (2 ^ n - 1).testBit i = true := by rw [Nat.testBit_two_pow_sub_one]; exact decide_eq_true hi

theorem dF_sound (hS : SumPOk P B S) (hrc : DSound P B rc) {f : FuncId} {args : List AV} {ob : Option Prop} {v : AV} {H' : Heap} (h : dF P S rc f args H = some (ob, v, H')) : FOk P B f args H ob v H' := by
  unfold dF at h
  split at h
  · rename_i v' hs; cases h; exact ⟨fun m f => Step.refl .., fun _ => hS f args H _ hs⟩
  · rename_i ob' v' H2 hs
    cases hb : Nat.ble H.next H2.next with
    | false => rw [hb] at h; cases h
    | true =>
      rw [hb, cond_true] at h
      cases h
      have hle := Nat.le_of_ble_eq_true hb
      refine ⟨fun m f => ⟨Near.refl _ _, fun i o hi ht ho => ?_, fun i ht => (or_clean.1 ht).1, hle⟩, fun ho => WF.mask (hS f args H _ hs ho) rfl rfl⟩
      have h2 := (or_clean.1 ht).2
      rw [ones_bit (Nat.lt_of_lt_of_le hi hle)] at h2; cases h2
  · cases h
  · cases h
  · split at h
    · cases h
    · rename_i fn hf
      split at h
      · cases h
      · rename_i c hb
        split at h
        · cases h
        · rename_i R hR
          split at h
          · cases h
          · rename_i R' hR'
            split at h
            · cases h
            · rename_i o hl
              split at h
              · rename_i hdr
                rw [Option.map_eq_some_iff] at h
                obtain ⟨u, hu, he⟩ := h
                cases he
                obtain ⟨k1, k2, k3⟩ := hrc _ _ _ _ _ _ hR none
                obtain ⟨m1, m2, m3⟩ := dSeq_ok (m := dmask c) hR' k1 k2 (fun t h => h) (fun t _ => Nat.zero_testBit _) (fun o H' R2 _ e => by cases e; exact ⟨OutsOk.one _ _, RKeep.one ..⟩)
                have ko := m2.outs _ _ (lkO_mem hl)
                refine ⟨fun m f => ⟨Near.refl _ _, ko.h, ko.d, ko.n⟩, fun ho => ?_⟩
                obtain ⟨n1, n0⟩ := m3 ho
                obtain ⟨n2, n3⟩ := n0 H.next (Nat.le_refl _)
                have hw : WC P B H.next none (args.length + (fn.ntmps - args.length)) c (initFr args 0 .nil) H (R.post H.next) := k3 n1 H.next (Nat.le_refl _)
                refine WF.body hf hb (WC.absPost (hw.mono fun x fr' H' hp => ?_))
                obtain ⟨o1, q1, q2, q3⟩ := hp
                have fin : ∀ {o' : Out}, (x = .nor ∨ x = .ret) → (XT.ret, o') ∈ R'.outs → Abs H.next fr' H' o'.fr o'.H → ∃ f2 H2, Abs H.next fr' H' f2 H2 ∧ (x = .nor ∨ x = .ret) ∧ ∃ v', ares P fn f2 H2 = some v' ∧ v' = v ∧ H2 = o.H := by
                  intro o' hx hm ha
                  have := nodup_unique m1.nd hm (lkO_mem hl)
                  subst this
                  exact ⟨_, _, ha, hx, v, hu, rfl, rfl⟩
                cases x with
                | nor =>
                  obtain ⟨H2, R2, s0, s0', s1, s2, s3⟩ := n3 o1 q1 q2
                  cases s1
                  obtain ⟨o', t1, t2, t3⟩ := s3 .ret _ (List.mem_cons_self ..) rfl
                  exact fin (.inl rfl) t1 (q3.trans ((Abs.refl H.next o1.fr o1.H).mask rfl rfl s0 s0' |>.trans t3))
                | ret =>
                  obtain ⟨o', t1, t2, t3⟩ := n2 .ret o1 (by simp) q1 q2
                  exact fin (.inr rfl) t1 (q3.trans t3)
                | ex id =>
                  obtain ⟨o', t1, t2, t3⟩ := n2 (.ex id) o1 (by simp) q1 q2
                  have : (XT.ex id, o') ∈ dropO .ret R'.outs := dropO_mem.2 ⟨t1, by simp⟩
                  rw [hdr] at this; cases this
              · cases h

theorem aput_near {m : Nat} {dst : Option Tmp} {v : AV} {f : Fr} (h : aput n fr dst v = some f) (hd : ∀ d, dst = some d → m.testBit d = true) : Near fr f m := fun t w ht hw => by
  rw [aput_keep h (fun e => by rw [hd t e] at ht; cases ht)] at hw; exact hw

theorem OKeep.fresh {m : Nat} {f : Fr} {H : Heap} {o : Out} (h : OKeep m f H o) : OKeep m f H.fresh o := ⟨h.fr, h.h, fun _ _ => Nat.zero_testBit _, h.n, h.ds, h.hs⟩
theorem RKeep.fresh {m : Nat} {f : Fr} {H : Heap} {kb : Nat} {l : List (XT × Out)} (h : RKeep m f H kb l) : RKeep m f H.fresh kb l := ⟨fun x o hm => (h.outs x o hm).fresh, h.base, h.kb⟩

/-- The same blocks. -/
def MaskOf (fz : Bool) (H H' : Heap) : Prop := H' = H ∨ (fz = true ∧ H'.t = H.t ∧ H'.next = H.next)

/-- What a step ahead of the rest of a region needs. -/
theorem dPutS_ok {fz g : Bool} {m : Nat} {dst : Option Tmp} {v : AV} {k : Fr → Heap → Option MR} {R : MR} {W : Nat → Post → Prop} {V : Fr → Heap → Nat → Post → Prop} (mono : Mono W) (hd : ∀ d, dst = some d → m.testBit d = true)
    (h : dPutS fz g m n fr dst v H k = some R)
    (hV : ∀ v' f H' K Q, v'.ub = v.ub → aput n fr dst v' = some f → MaskOf fz H H' → V f H' K Q → W K Q) (hk : ∀ f H' R, k f H' = some R → ROk m f H' R (V f H')) : ROk m fr H R W := by
  have plain : ∀ {v' : AV} {R : MR}, v'.ub = v.ub → ((aput n fr dst v').bind fun f => k f H) = some R → ROk m fr H R W := by
    intro v' R hun h
    rw [Option.bind_eq_some_iff] at h
    obtain ⟨f, hf, h⟩ := h
    obtain ⟨k1, k2, k3⟩ := hk f H R h
    exact ⟨k1, k2.trans (m := m) (m1 := m) ⟨aput_near hf hd, NearH.refl _ _, fun _ h => h, Nat.le_refl _⟩ (fun t h => h) (fun t h => h), fun ho K hK => hV v' f H K _ hun hf (.inl rfl) (k3 ho K hK)⟩
  unfold dPutS at h
  split at h
  · rename_i b
    split at h
    · exact plain rfl h
    · split at h
      · cases h
      · rename_i f1 h1
        split at h
        · cases h
        · rename_i f2 h2
          cases fz with
          | true =>
            rw [cond_true] at h
            refine dJoin_ok mono h (aput_near h1 hd) (aput_near h2 hd) (fun t h => h) (fun t h => h) (fun R1 e => ?_) (fun R2 e => ?_)
            · obtain ⟨k1, k2, k3⟩ := hk f1 H.fresh R1 e
              exact ⟨k1, k2, fun eb ho K hK => hV (.bool true) f1 H.fresh K _ (by rw [eb]; rfl) h1 (.inr ⟨rfl, rfl, rfl⟩) (k3 ho K hK)⟩
            · obtain ⟨k1, k2, k3⟩ := hk f2 H.fresh R2 e
              exact ⟨k1, k2, fun eb ho K hK => hV (.bool false) f2 H.fresh K _ (by rw [eb]; rfl) h2 (.inr ⟨rfl, rfl, rfl⟩) (k3 ho K hK)⟩
          | false =>
            rw [cond_false] at h
            refine dJoin_ok mono h (aput_near h1 hd) (aput_near h2 hd) (fun t h => h) (fun t h => h) (fun R1 e => ?_) (fun R2 e => ?_)
            · obtain ⟨k1, k2, k3⟩ := hk f1 H R1 e
              exact ⟨k1, k2.fresh, fun eb ho K hK => hV (.bool true) f1 H K _ (by rw [eb]; rfl) h1 (.inl rfl) (k3 ho K hK)⟩
            · obtain ⟨k1, k2, k3⟩ := hk f2 H R2 e
              exact ⟨k1, k2.fresh, fun eb ho K hK => hV (.bool false) f2 H K _ (by rw [eb]; rfl) h2 (.inl rfl) (k3 ho K hK)⟩
  · exact plain rfl h

theorem WO.maskH {K : Nat} {fz : Bool} {l : List Nat} {H2 : Heap} {Q : Fr → Heap → Prop} (h : WO P B K r n ops l fr H2 Q) (hm : MaskOf fz H H2) : WO P B K r n ops l fr H Q := by
  rcases hm with rfl | ⟨_, ht, hn⟩
  · exact h
  · exact fun M ρ w a hk h1 h2 h3 h4 => h M ρ w a hk (h1.mask ht hn) h2 h3 h4

theorem WO.callV {K : Nat} {i : Nat} {rest : List Nat} {o : Oper} {f : FuncId} {args : List AV} {v v' : AV} {H' : Heap} {f1 : Fr} {Q : Fr → Heap → Prop} (ho : ops[i]? = some o) (hw : aWant ops fr o = some true) (he : aop P fr H o = some (.call f args))
    (hwf : WF P B f args H fun u H2 => u = v ∧ H2 = H') (hun : v'.ub = v.ub) (hp : aput n fr o.dst v' = some f1) (h : WO P B K r n ops rest f1 H' Q) : WO P B K r n ops (i :: rest) fr H Q :=
  WO.call ho hw he (hwf.reval0 fun u H2 ρ x hu hx => ⟨v', ⟨f1, hp, by rw [hu.2]; exact h⟩, (hu.1 ▸ hx).eqv hun⟩)

/-- All slots of the region have a bit. -/
def Full (m : Nat) (ops : Array Oper) : Prop := ∀ (i : Nat) (o : Oper) (d : Nat), ops[i]? = some o → o.dst = some d → m.testBit d = true

theorem omask_full : ∀ {l : List Oper} {o : Oper} {d : Nat}, o ∈ l → o.dst = some d → (omask l).testBit d = true
  | [], o, d, hm, _ => by cases hm
  | q :: l, o, d, hm, hd => by
    unfold omask
    rcases List.mem_cons.1 hm with rfl | hm
    · rw [hd]; simp only [Nat.testBit_or, Nat.testBit_two_pow_self, Bool.true_or]
    · have ih := omask_full hm hd
      split
      · exact ih
      · rw [Nat.testBit_or, ih, Bool.or_true]

theorem rmask_full : Full (rmask ops) ops := fun i o d ho hd => omask_full (List.mem_of_getElem? (by simpa using ho)) hd

theorem ROk.add {m : Nat} {f : Fr} {H : Heap} {p : Option Prop} {R : MR} {W W' : Nat → Post → Prop} (h : ROk m f H R W) (k : obOk p → ∀ K Q, W K Q → W' K Q) : ROk m f H (addOb p R) W' :=
  ⟨h.ok, h.keep, fun ho K hK => k (andOb_inv ho).1 K _ (h.w (andOb_inv ho).2 K hK)⟩

theorem ROk.back {m : Nat} {f f' : Fr} {H H' : Heap} {R : MR} {W W' : Nat → Post → Prop} (h : ROk m f' H' R W) (s : Step m f H f' H') (k : ∀ K Q, W K Q → W' K Q) : ROk m f H R W' :=
  ⟨h.ok, h.keep.trans s (fun t h => h) (fun t h => h), fun ho K hK => k K _ (h.w ho K (Nat.le_trans hK s.n))⟩

theorem dO_sound (hS : SumPOk P B S) (hrc : DSound P B rc) {m : Nat} (hm : Full m ops) : ∀ (l : List Nat) (fr : Fr) (H : Heap) (R : MR), dO P S rc m n ops l fr H = some R → ROk m fr H R fun K Q => WO P B K r n ops l fr H fun f' H' => Q .nor f' H'
  | [], fr, H, R, h => by
    unfold dO at h; cases h
    exact ROk.one fun K Q hq => WO.nil hq
  | i :: rest, fr, H, R, h => by
    unfold dO at h
    split at h
    · cases h
    · rename_i o ho
      have ih := fun f H R h => dO_sound hS hrc hm rest f H R h
      have mono : ∀ H, Mono fun K Q => WO P B K r n ops (i :: rest) fr H fun f' H' => Q .nor f' H' := fun H K Q Q' hq hw => hw.mono fun f' H' => hq _ _ _
      have hd := fun d => hm i o d ho
      unfold dOp at h
      split at h
      · cases h
      · rename_i hw
        rw [Option.bind_eq_some_iff] at h
        obtain ⟨f, hp, h⟩ := h
        exact (ih _ _ _ h).back ⟨aput_near hp hd, NearH.refl _ _, fun _ h => h, Nat.le_refl _⟩ fun K Q hq => WO.skipped ho hw hp hq
      · rename_i hw
        split at h
        · cases h
        · rename_i ob q he
          have hkp := aopC_kp he
          split at h
          · rename_i v H'
            rw [Option.map_eq_some_iff] at h
            obtain ⟨R1, h, rfl⟩ := h
            have hkp : H.Kp H' := hkp
            -- the rest runs from the block's turned state
            have main : ∀ (hob : obOk ob), ROk m fr H' R1 fun K Q => WO P B K r n ops (i :: rest) fr H fun f' H' => Q .nor f' H' := fun hob =>
              dPutS_ok (V := fun f H' K Q => WO P B K r n ops rest f H' fun f' H' => Q .nor f' H') (mono H) hd h (fun v' f H2 K Q hun hp hmk hV => WO.val' ho hw (aop_of he hob) hun hp (WO.maskH hV hmk)) fun f H2 R hk => ih _ _ _ hk
            have main0 : ROk m fr H' R1 fun _ _ => True := dPutS_ok (V := fun _ _ _ _ => True) (fun _ _ _ _ _ => trivial) hd h (fun _ _ _ _ _ _ _ _ _ => trivial) fun f H2 R hk => ⟨(ih _ _ _ hk).ok, (ih _ _ _ hk).keep, fun _ _ _ => trivial⟩
            have s : Step m fr H fr H' := Step.of_kp hkp (Near.refl _ _)
            refine ⟨main0.ok, main0.keep.trans s (fun t h => h) (fun t h => h), fun hob K hK => ?_⟩
            obtain ⟨o1, o2⟩ := andOb_inv hob
            exact (main o1).w o2 K (Nat.le_trans hK s.n)
          · rename_i f args
            split at h
            · cases h
            · rename_i ob2 v H' hF
              rw [Option.map_eq_some_iff] at h
              obtain ⟨R1, h, rfl⟩ := h
              have F := dF_sound hS hrc hF
              have main : ∀ (hob : obOk (andOb ob ob2)), ROk m fr H' R1 fun K Q => WO P B K r n ops (i :: rest) fr H fun f' H' => Q .nor f' H' := fun hob =>
                dPutS_ok (V := fun f H' K Q => WO P B K r n ops rest f H' fun f' H' => Q .nor f' H') (mono H) hd h (fun v' f H2 K Q hun hp hmk hV => WO.callV ho hw (aop_of he (andOb_inv hob).1) (F.w (andOb_inv hob).2) hun hp (WO.maskH hV hmk)) fun f H2 R hk => ih _ _ _ hk
              have main0 : ROk m fr H' R1 fun _ _ => True := dPutS_ok (V := fun _ _ _ _ => True) (fun _ _ _ _ _ => trivial) hd h (fun _ _ _ _ _ _ _ _ _ => trivial) fun f H2 R hk => ⟨(ih _ _ _ hk).ok, (ih _ _ _ hk).keep, fun _ _ _ => trivial⟩
              have s : Step m fr H fr H' := F.step m fr
              refine ⟨main0.ok, main0.keep.trans s (fun t h => h) (fun t h => h), fun hob K hK => ?_⟩
              obtain ⟨o1, o2⟩ := andOb_inv hob
              exact (main o1).w o2 K (Nat.le_trans hK s.n)
          · cases h

theorem chkOb_inv : ∀ {js : List Nat} {fr : Fr} {H : Heap}, obOk (chkOb P ops fr H js) → ∀ j ∈ js, ∀ oj, ops[j]? = some oj → ∃ v v' : AV, roVal P ops fr H oj = some v ∧ v'.ub = v.ub ∧ ∀ d, oj.dst = some d → fr.get d = some v'
  | [], fr, H, h, j, hj => by cases hj
  | j :: js, fr, H, h, i, hi => by
    have key : obOk (chkOb P ops fr H js) → (∀ oj, ops[j]? = some oj → ∃ v v' : AV, roVal P ops fr H oj = some v ∧ v'.ub = v.ub ∧ ∀ d, oj.dst = some d → fr.get d = some v') →
        ∀ oj, ops[i]? = some oj → ∃ v v' : AV, roVal P ops fr H oj = some v ∧ v'.ub = v.ub ∧ ∀ d, oj.dst = some d → fr.get d = some v' := by
      intro hh hj
      rcases List.mem_cons.1 hi with rfl | hi
      · exact hj
      · exact chkOb_inv hh i hi
    unfold chkOb at h
    split at h
    · rename_i hn; exact key h fun oj hoj => by rw [hn] at hoj; cases hoj
    · rename_i oj hoj
      split at h
      · exact (show False from h).elim
      · rename_i p v hro
        obtain ⟨hp, h⟩ := andOb_inv h
        have hv := roX_ok hro hp
        split at h
        · rename_i hd
          exact key h fun oj' hoj' => by rw [hoj] at hoj'; cases hoj'; exact ⟨v, v, hv, rfl, fun d hd' => by rw [hd] at hd'; cases hd'⟩
        · rename_i d hd
          split at h
          · exact (show False from h).elim
          · rename_i u hu
            have fin : ∀ {ps}, sameP u v = some ps → AllP ps → ∀ oj', ops[j]? = some oj' → ∃ v v' : AV, roVal P ops fr H oj' = some v ∧ v'.ub = v.ub ∧ ∀ d, oj'.dst = some d → fr.get d = some v' := fun {ps} hps hps' oj' hoj' => by
              rw [hoj] at hoj'; cases hoj'
              exact ⟨v, u, hv, sameP_sound hps hps', fun d' hd' => by rw [hd] at hd'; cases hd'; exact hu⟩
            split at h
            · exact (show False from h).elim
            · rename_i hps; exact key h (fin hps trivial)
            · rename_i q qs hps
              obtain ⟨o1, o2⟩ := andOb_inv h
              exact key o2 (fin hps (allP_of o1))

theorem ROk.map {m : Nat} {f : Fr} {H : Heap} {R : MR} {W W' : Nat → Post → Prop} (h : ROk m f H R W) (k : ∀ K Q, W K Q → W' K Q) : ROk m f H R W' := ⟨h.ok, h.keep, fun a b c => k _ _ (h.w a b c)⟩

theorem toL_mem {α : Type} : ∀ {tr : T α} {a b : Nat} {t : Nat} {v : α}, (t, v) ∈ T.toL a b tr ↔ ∃ j, t = a * j + b ∧ tr.get j = some v
  | .nil, a, b, t, v => by simp [T.toL, T.get]
  | .node l x r, a, b, t, v => by
    have hl := @toL_mem α l (2 * a) (a + b) t v
    have hr := @toL_mem α r (2 * a) (2 * a + b) t v
    have key : (∃ j, t = a * j + b ∧ (T.node l x r).get j = some v) ↔ (t = b ∧ x = some v) ∨ (∃ j, t = 2 * a * j + (a + b) ∧ l.get j = some v) ∨ (∃ j, t = 2 * a * j + (2 * a + b) ∧ r.get j = some v) := by
      constructor
      · rintro ⟨j, rfl, hj⟩
        cases j with
        | zero => exact .inl ⟨by simp, hj⟩
        | succ j =>
          simp only [T.get] at hj
          cases hb : Nat.beq (j % 2) 0 with
          | true =>
            rw [hb, cond_true] at hj
            have e : j % 2 = 0 := Nat.eq_of_beq_eq_true hb
            refine .inr (.inl ⟨j / 2, ?_, hj⟩)
            have : j = 2 * (j / 2) := by omega
            generalize j / 2 = q at this
            subst this
            rw [Nat.mul_add, Nat.mul_comm 2 a, Nat.mul_assoc]; omega
          | false =>
            rw [hb, cond_false] at hj
            have e : j % 2 ≠ 0 := Nat.ne_of_beq_eq_false hb
            refine .inr (.inr ⟨j / 2, ?_, hj⟩)
            have : j = 2 * (j / 2) + 1 := by omega
            generalize j / 2 = q at this
            subst this
            rw [Nat.mul_add, Nat.mul_add, Nat.mul_comm 2 a, Nat.mul_assoc]; omega
      · rintro (⟨rfl, rfl⟩ | ⟨j, rfl, hj⟩ | ⟨j, rfl, hj⟩)
        · exact ⟨0, by simp, rfl⟩
        · refine ⟨2 * j + 1, ?_, ?_⟩
          · rw [Nat.mul_add, Nat.mul_comm 2 a, Nat.mul_assoc]; omega
          · have h1 : (2 * j) % 2 = 0 := by omega
            have h2 : 2 * j / 2 = j := by omega
            simp only [T.get, h1, h2, Nat.beq_refl, cond_true]; exact hj
        · refine ⟨2 * j + 1 + 1, ?_, ?_⟩
          · rw [Nat.mul_add, Nat.mul_add, Nat.mul_comm 2 a, Nat.mul_assoc]; omega
          · have h1 : (2 * j + 1) % 2 = 1 := by omega
            have h2 : (2 * j + 1) / 2 = j := by omega
            have h3 : Nat.beq 1 0 = false := rfl
            simp only [T.get, h1, h2, h3, cond_false]; exact hj
    rw [key]
    cases x with
    | none => simp only [T.toL, List.mem_append, hl, hr]; simp
    | some y => simp only [T.toL, List.mem_cons, List.mem_append, hl, hr, Prod.mk.injEq, Option.some.injEq]; exact ⟨fun h => h.imp (fun ⟨h1, h2⟩ => ⟨h1, h2.symm⟩) id, fun h => h.imp (fun ⟨h1, h2⟩ => ⟨h1, h2.symm⟩) id⟩

theorem frOf_some : ∀ {l : List (Nat × AV)} {t : Nat} {v : AV}, (t, v) ∈ l → ∃ u, (frOf l).get t = some u
  | (t', v') :: l, t, v, h => by
    simp only [frOf, T.get_set]
    by_cases e : t = t'
    · exact ⟨v', by rw [if_pos e]⟩
    · rw [if_neg e]
      rcases List.mem_cons.1 h with h | h
      · exact (e (Prod.mk.inj h).1).elim
      · exact frOf_some h

theorem frOf_toL {fr : Fr} {t : Nat} {v : AV} (h : fr.get t = some v) : (frOf (T.toL 1 0 fr)).get t = some v := by
  obtain ⟨u, hu⟩ := frOf_some (toL_mem.2 ⟨t, by omega, h⟩ : (t, v) ∈ T.toL 1 0 fr)
  obtain ⟨j, hj, hg⟩ := toL_mem.1 (frOf_get _ _ _ hu)
  have : j = t := by omega
  subst this
  rw [hg] at h; rw [hu, h]

theorem soleO_eq {R : MR} {o : Out} (h : soleO R = some o) : R.outs = [(.nor, o)] ∧ o.g = none := by
  unfold soleO at h
  split at h
  · cases h
  · rename_i p l hp
    split at h
    · split at h
      · rename_i hx
        split at h
        · rename_i hg; cases h; rw [hp, ← hx]; exact ⟨rfl, hg⟩
        · cases h
      · cases h
    · cases h

theorem listOb_ok {ps : List Prop} (h : obOk (listOb ps)) : AllP ps := by
  cases ps with
  | nil => trivial
  | cons p ps => exact allP_of h

theorem mOsF_ft {d K : Nat} {r : Ren} {H0 H : Heap} (hr : Roots K r) (hc : ∀ i o o', i < K → d.testBit i = false → H0.get i = some o → H.get i = some o' → o = o') : ∀ {l : List Nat} {ps : List Prop}, mOsF d K r H0 H l = some ps → AllP ps → Ft (mOs r H0 H l)
  | [], ps, h, hp => ⟨[], rfl, trivial⟩
  | i :: l, ps, h, hp => by
    unfold mOsF at h
    obtain ⟨p, q, h1, h2, hp1, hq1⟩ := andP_inv h hp
    have ih := mOsF_ft hr hc h2 hq1
    unfold mOs
    refine Ft.and ?_ ih
    cases ho : H0.get i with
    | none => exact ⟨[], rfl, trivial⟩
    | some o =>
      rw [ho] at h1
      simp only at h1 ⊢
      cases hb : (Nat.blt i K && !(Nat.testBit d i) && someB (H.get i) && selfO K o) with
      | false => rw [hb] at h1; exact ⟨p, h1, hp1⟩
      | true =>
        simp only [Bool.and_eq_true, Bool.not_eq_true'] at hb
        obtain ⟨⟨⟨b1, b2⟩, b3⟩, b4⟩ := hb
        have hlt := blt_lt b1
        have hl : lk r i = some (.same i) := isSame_lk (hr i hlt)
        rw [hl]
        simp only [Src.id?, Option.bind_some]
        cases hH : H.get i with
        | none => rw [hH] at b3; cases b3
        | some o' =>
          have := hc i o o' hlt b2 ho hH
          subst this
          exact selfO_mO hr b4

theorem mSF_ok {d K : Nat} {r : Ren} {fl : List (Nat × AV)} {H0 : Heap} {fr : Fr} {H : Heap} {ps : List Prop} (h : mSF d K r fl H0 fr H = some ps) (hp : AllP ps)
    (hc : ∀ i o o', i < K → d.testBit i = false → H0.get i = some o → H.get i = some o' → o = o') : ∃ qs, mS K r fl H0 fr H = some qs ∧ AllP qs := by
  unfold mSF at h
  unfold mS
  cases hb : (rootsOk r K && Nat.ble K H0.next && Nat.ble K H.next && distinct r && keysOk r H0.next && subsOk H0 r && T.allK (fun i => Nat.blt i H0.next) H0.t) with
  | false => rw [hb] at h; cases h
  | true =>
    rw [hb, cond_true] at h
    simp only [cond_true]
    simp only [Bool.and_eq_true] at hb
    have hroots : Roots K r := fun i hi => by
      have := rootsOk_sound hb.1.1.1.1.1.1 i hi
      unfold isSame; rw [this]; simp [Nat.beq_refl]
    obtain ⟨p, q, h1, h2, hp1, hq1⟩ := andP_inv h hp
    exact Ft.and ⟨p, h1, hp1⟩ (mOsF_ft hroots hc h2 hq1)

theorem dBoth_ok {m : Nat} {f : Fr} {H : Heap} {A C R : MR} {W W' : Nat → Post → Prop} (h : dBoth m H A C = some R) (hA : ROk m f H.fresh A W) (hC : ROk m f H.fresh C W') (hm0 : Mono W) (hm : Mono W') : ROk m f H R fun K Q => W K Q ∧ W' K Q := by
  unfold dBoth at h
  split at h
  · cases h
  · rename_i oa ha
    split at h
    · cases h
    · rename_i ob hb
      split at h
      · cases h
      · rename_i ps hps
        cases h
        obtain ⟨a1, a2⟩ := soleO_eq ha
        obtain ⟨b1, b2⟩ := soleO_eq hb
        have ka := hA.keep.outs .nor oa (by rw [a1]; exact List.mem_singleton.2 rfl)
        have kb := hC.keep.outs .nor ob (by rw [b1]; exact List.mem_singleton.2 rfl)
        have s0 : Step m f H f H := ⟨Near.refl _ _, NearH.refl _ _, fun _ h => h, Nat.le_refl _⟩
        refine ⟨reb_outs hA.ok, ⟨fun x o hmo => ?_, ⟨f, H, rfl, fun x o hmo => ?_⟩, Nat.le_refl _⟩, fun hob K hK => ?_⟩
        · obtain ⟨p, hp, e⟩ := List.mem_map.1 hmo
          cases e
          exact reb_keep s0 (hA.keep.outs p.1 p.2 hp) (fun _ h => h) (fun _ h => h) (fun _ h => h) (fun _ _ => Nat.zero_testBit _)
        · obtain ⟨p, hp, e⟩ := List.mem_map.1 hmo
          cases e
          have k := hA.keep.outs p.1 p.2 hp
          exact ⟨fun t w ht hw => k.fr t w ht hw, fun i o hi ht ho => k.h i o hi (or_clean.1 ht).2 ho, k.n⟩
        obtain ⟨o1, o2⟩ := andOb_inv hob
        obtain ⟨o2, o3⟩ := andOb_inv o2
        have up : ∀ x fr' H', A.post K x fr' H' → (⟨andOb A.ob (andOb C.ob (listOb ps)), H.next, A.outs.map (reb m 0 H.d)⟩ : MR).post K x fr' H' := fun x fr' H' ⟨o, g1, g2, g3⟩ => ⟨_, reb_mem g1, g2, reb_abs (p := (x, o)) g3⟩
        refine ⟨hm0 K _ _ up (hA.w o1 K hK), hm K _ _ (fun x fr' H' ⟨o, g1, g2, g3⟩ => ?_) (hC.w o2 K hK)⟩
        rw [b1, List.mem_singleton] at g1
        cases g1
        obtain ⟨qs, hq1, hq2⟩ := mSF_ok hps (listOb_ok o3) (fun i o o' hi hd h1 h2 => by
          obtain ⟨c1, c2⟩ := or_clean.1 hd
          have e1 := ka.h i o hi c1 h1
          have e2 := kb.h i o' hi c2 h2
          rw [e1] at e2; exact Option.some.inj e2)
        have k1 : Abs H.next ob.fr ob.H (frOf (T.toL 1 0 oa.fr)) oa.H := mS_sound hq1 hq2
        have k2 : Abs H.next ob.fr ob.H oa.fr oa.H := fun B ρ w tmps hK hr hf => let ⟨ρ', h1, h2, h3⟩ := k1 B ρ w tmps hK hr hf; ⟨ρ', h1, fun t v ht => h2 t v (frOf_toL ht), h3⟩
        exact up _ _ _ ⟨oa, by rw [a1]; exact List.mem_singleton.2 rfl, by unfold Out.on; rw [a2]; rfl, g3.trans (k2.le hK kb.n)⟩

theorem dPl_sound (hS : SumPOk P B S) (hrc : DSound P B rc) {m : Nat} (hm : Full m ops) {an : List Nat} (hA : Anc ops fun i => an.getD i 0) : ∀ (pl : Pl) (lA : Nat) (fr : Fr) (H : Heap) (R : MR), Down ops lA → dPl P S rc m n ops pl fr H = some R →
    (∀ hs, pl.grp = true → okPlan P ops an hs lA pl = true → ROk m fr H R fun K Q => ∀ i ∈ pl.heads, ∃ o, ops[i]? = some o ∧ lA.testBit i = false ∧ WI P B K r n ops (fun i => an.getD i 0) lA i o fr H fun f' H' => Q .nor f' H') ∧
    (okPlan P ops an pl.heads lA pl = true → ROk m fr H R fun K Q => WD P B K r n ops (fun i => an.getD i 0) lA fr H fun f' H' => Q .nor f' H')
  | .done, lA, fr, H, R, hd, h => by
    refine ⟨fun hs hg => (by cases hg), fun hok => ?_⟩
    simp only [okPlan, List.all_eq_true, List.mem_range] at hok
    unfold dPl at h; cases h
    exact ROk.one fun K Q hq => WD.done hA (fun k hk => hok k hk) hq
  | .ro i rest, lA, fr, H, R, hd, h => by
    refine ⟨fun hs hg => (by cases hg), fun hok => ?_⟩
    simp only [okPlan, Bool.and_eq_true, Bool.not_eq_true'] at hok
    obtain ⟨⟨⟨⟨k1, k2⟩, k3⟩, k4⟩, k5⟩ := hok
    unfold dPl at h
    split at h
    · cases h
    · rename_i o ho
      rw [ho] at k4
      have hin : ∀ e ∈ o.after, Region.binds .any e = true → lA.testBit e.on = true := fun e he hb => subM_bit k2 (hA.back i o ho e he hb).2
      split at h
      · cases h
      · rename_i p v hv
        rw [Option.map_eq_some_iff] at h
        obtain ⟨R1, h, rfl⟩ := h
        have ih := fun f H R (hk : dPl P S rc m n ops rest f H = some R) => (dPl_sound hS hrc hm hA rest (lA ||| 2 ^ i) f H R (hd.add ho hin) hk).2 k5
        have main : ∀ (hob : obOk p), ROk m fr H R1 fun K Q => WD P B K r n ops (fun i => an.getD i 0) lA fr H fun f' H' => Q .nor f' H' := fun hob =>
          dPutS_ok (V := fun f H' K Q => WD P B K r n ops (fun i => an.getD i 0) (lA ||| 2 ^ i) f H' fun f' H' => Q .nor f' H') (fun K Q Q' hq hw => hw.mono fun f' H' => hq _ _ _) (fun d => hm i o d ho) h
            (fun v' f H2 K Q hun hp hmk hV => by
              rcases hmk with rfl | ⟨e, _⟩
              · exact WD.ro hA ho hd k1 k4 (dstOk_ok k3) (roX_ok hv hob) hun hp hV
              · cases e) fun f H2 R hk => ih _ _ _ hk
        have main0 : ROk m fr H R1 fun _ _ => True := dPutS_ok (V := fun _ _ _ _ => True) (fun _ _ _ _ _ => trivial) (fun d => hm i o d ho) h (fun _ _ _ _ _ _ _ _ _ => trivial) fun f H2 R hk => ⟨(ih _ _ _ hk).ok, (ih _ _ _ hk).keep, fun _ _ _ => trivial⟩
        exact ⟨main0.ok, main0.keep, fun hob K hK => (main (andOb_inv hob).1).w (andOb_inv hob).2 K hK⟩
  | .both a b, lA, fr, H, R, hd, h => by
    unfold dPl at h
    split at h
    · cases h
    · rename_i A ha
      split at h
      · cases h
      · rename_i C hc
        have main : ∀ hs, okPlan P ops an hs lA (.both a b) = true → ROk m fr H R fun K Q => ∀ i ∈ (Pl.both a b).heads, ∃ o, ops[i]? = some o ∧ lA.testBit i = false ∧ WI P B K r n ops (fun i => an.getD i 0) lA i o fr H fun f' H' => Q .nor f' H' := by
          intro hs hok
          simp only [okPlan, Bool.and_eq_true] at hok
          have mono : ∀ l : List Nat, Mono fun K Q => ∀ i ∈ l, ∃ o, ops[i]? = some o ∧ lA.testBit i = false ∧ WI P B K r n ops (fun i => an.getD i 0) lA i o fr H.fresh fun f' H' => Q .nor f' H' := by
            intro l K Q Q' hq h i hi
            obtain ⟨o, h1, h2, h3⟩ := h i hi
            exact ⟨o, h1, h2, h3.mono fun f' H' => hq _ _ _⟩
          refine (dBoth_ok h ((dPl_sound hS hrc hm hA a _ _ _ _ hd ha).1 hs hok.1.1.1 hok.1.2) ((dPl_sound hS hrc hm hA b _ _ _ _ hd hc).1 hs hok.1.1.2 hok.2) (mono _) (mono _)).map fun K Q hq i hi => ?_
          have : ∃ o, ops[i]? = some o ∧ lA.testBit i = false ∧ WI P B K r n ops (fun i => an.getD i 0) lA i o fr H.fresh fun f' H' => Q .nor f' H' := by
            rw [Pl.heads, List.mem_append] at hi
            exact hi.elim (hq.1 i) (hq.2 i)
          obtain ⟨o, h1, h2, h3⟩ := this
          exact ⟨o, h1, h2, h3.fresh⟩
        refine ⟨fun hs _ hok => main hs hok, fun hok => ?_⟩
        have hg : (Pl.both a b).grp = true := by
          simp only [okPlan, Bool.and_eq_true] at hok
          simp only [Pl.grp, Bool.and_eq_true]; exact hok.1.1
        obtain ⟨i0, hi0⟩ := grp_heads hg
        exact (main _ hok).map fun K Q hq => WD.louds hA (okPlan_alone hA hd hg hok) hi0 hq
  | .loud i js rest, lA, fr, H, R, hd, h => by
    have main : ∀ hs, okPlan P ops an hs lA (.loud i js rest) = true → ∃ o, ops[i]? = some o ∧ lA.testBit i = false ∧ ROk m fr H R fun K Q => WI P B K r n ops (fun i => an.getD i 0) lA i o fr H fun f' H' => Q .nor f' H' := by
      intro hs hok
      simp only [okPlan, Bool.and_eq_true, Bool.not_eq_true', List.all_eq_true, List.mem_range] at hok
      obtain ⟨⟨⟨⟨⟨k1, k2⟩, k3⟩, k4⟩, k5⟩, k6⟩ := hok
      unfold dPl at h
      split at h
      · cases h
      · rename_i o ho
        have hin : ∀ e ∈ o.after, Region.binds .any e = true → lA.testBit e.on = true := fun e he hb => subM_bit k2 (hA.back i o ho e he hb).2
        have hd' := hd.add ho hin
        refine ⟨o, ho, k1, ?_⟩
        have again : ∀ {fr' : Fr} {H' : Heap}, obOk (chkOb P ops fr' H' js) → Again P n ops (fun i => an.getD i 0) lA i fr' H' := by
          intro fr' H' hh
          have h1 := chkOb_inv hh
          intro j oj hj hjA hjan hro
          have := k5 j (Array.getElem?_eq_some_iff.1 hj).1
          simp only [Bool.or_eq_true, Bool.not_eq_true'] at this
          rw [hj] at this
          have hjs : j ∈ js := by
            rcases this with ((h | h) | h) | h
            · unfold inM at h; rw [hjA] at h; cases h
            · unfold inM at h; rw [hjan] at h; cases h
            · simp [hro] at h
            · rw [List.any_eq_true] at h
              obtain ⟨x, hx, hx2⟩ := h
              rw [nbeq hx2]; exact hx
          exact h1 j hjs oj hj
        have mono : Mono fun K Q => WI P B K r n ops (fun i => an.getD i 0) lA i o fr H fun f' H' => Q .nor f' H' := fun K Q Q' hq hw => hw.mono fun f' H' => hq _ _ _
        have ih : ∀ f H' R, ((dPl P S rc m n ops rest f H').map (addOb (chkOb P ops f H' js))) = some R →
            ROk m f H' R fun K Q => Again P n ops (fun i => an.getD i 0) lA i f H' ∧ WD P B K r n ops (fun i => an.getD i 0) (lA ||| 2 ^ i) f H' fun f' H' => Q .nor f' H' := by
          intro f H' R hk
          rw [Option.map_eq_some_iff] at hk
          obtain ⟨R1, hk, rfl⟩ := hk
          obtain ⟨m1, m2, m3⟩ := (dPl_sound hS hrc hm hA rest _ f H' R1 hd' hk).2 k6
          refine ⟨m1, m2, fun hob K hK => ?_⟩
          obtain ⟨o1, o2⟩ := andOb_inv hob
          exact ⟨again o1, m3 o2 K hK⟩
        have hdm := fun d => hm i o d ho
        unfold dOp at h
        split at h
        · cases h
        · rename_i hw
          rw [Option.bind_eq_some_iff] at h
          obtain ⟨f, hp, h⟩ := h
          exact (ih _ _ _ h).back ⟨aput_near hp hdm, NearH.refl _ _, fun _ h => h, Nat.le_refl _⟩ fun K Q hq => WI.skipped ho hw hp hq.1 hq.2
        · rename_i hw
          split at h
          · cases h
          · rename_i ob q he
            have hkp := aopC_kp he
            split at h
            · rename_i v H'
              rw [Option.map_eq_some_iff] at h
              obtain ⟨R1, h, rfl⟩ := h
              have hkp : H.Kp H' := hkp
              have main : ∀ (hob : obOk ob), ROk m fr H' R1 fun K Q => WI P B K r n ops (fun i => an.getD i 0) lA i o fr H fun f' H' => Q .nor f' H' := fun hob =>
                dPutS_ok mono hdm h (fun v' f H2 K Q hun hp hmk hV => by
                  rcases hmk with rfl | ⟨e, _⟩
                  · exact WI.val ho hw (aop_of he hob) hun hp hV.1 hV.2
                  · cases e) fun f H2 R hk => ih _ _ _ hk
              have main0 : ROk m fr H' R1 fun _ _ => True := dPutS_ok (V := fun _ _ _ _ => True) (fun _ _ _ _ _ => trivial) hdm h (fun _ _ _ _ _ _ _ _ _ => trivial) fun f H2 R hk => ⟨(ih _ _ _ hk).ok, (ih _ _ _ hk).keep, fun _ _ _ => trivial⟩
              have s : Step m fr H fr H' := Step.of_kp hkp (Near.refl _ _)
              refine ⟨main0.ok, main0.keep.trans s (fun t h => h) (fun t h => h), fun hob K hK => ?_⟩
              obtain ⟨o1, o2⟩ := andOb_inv hob
              exact (main o1).w o2 K (Nat.le_trans hK s.n)
            · rename_i f args
              split at h
              · cases h
              · rename_i ob2 v H' hF
                rw [Option.map_eq_some_iff] at h
                obtain ⟨R1, h, rfl⟩ := h
                have F := dF_sound hS hrc hF
                have main : ∀ (hob : obOk (andOb ob ob2)), ROk m fr H' R1 fun K Q => WI P B K r n ops (fun i => an.getD i 0) lA i o fr H fun f' H' => Q .nor f' H' := fun hob =>
                  dPutS_ok mono hdm h (fun v' f H2 K Q hun hp hmk hV => by
                    rcases hmk with rfl | ⟨e, _⟩
                    · exact WI.call ho hw (aop_of he (andOb_inv hob).1) ((F.w (andOb_inv hob).2).reval0 fun u H2 ρ x hu hx => ⟨v', ⟨f, hp, by rw [hu.2]; exact hV.1, by rw [hu.2]; exact hV.2⟩, (hu.1 ▸ hx).eqv hun⟩)
                    · cases e) fun f H2 R hk => ih _ _ _ hk
                have main0 : ROk m fr H' R1 fun _ _ => True := dPutS_ok (V := fun _ _ _ _ => True) (fun _ _ _ _ _ => trivial) hdm h (fun _ _ _ _ _ _ _ _ _ => trivial) fun f H2 R hk => ⟨(ih _ _ _ hk).ok, (ih _ _ _ hk).keep, fun _ _ _ => trivial⟩
                have s : Step m fr H fr H' := F.step m fr
                refine ⟨main0.ok, main0.keep.trans s (fun t h => h) (fun t h => h), fun hob K hK => ?_⟩
                obtain ⟨o1, o2⟩ := andOb_inv hob
                exact (main o1).w o2 K (Nat.le_trans hK s.n)
            · cases h

    refine ⟨fun hs _ hok => ?_, fun hok => ?_⟩
    · obtain ⟨o, h1, h2, h3⟩ := main hs hok
      exact h3.map fun K Q hq j hj => by rw [Pl.heads, List.mem_singleton] at hj; subst hj; exact ⟨o, h1, h2, hq⟩
    · obtain ⟨o, h1, h2, h3⟩ := main _ hok
      exact h3.map fun K Q hq => WD.louds hA (okPlan_alone hA hd rfl hok) (List.mem_singleton.2 rfl) fun j hj => by rw [Pl.heads, List.mem_singleton] at hj; subst hj; exact ⟨o, h1, h2, hq⟩

theorem WC.maskH {K : Nat} {c : Code} {H2 : Heap} {Q : Post} (h : WC P B K r n c fr H2 Q) (ht : H2.t = H.t) (hn : H2.next = H.next) : WC P B K r n c fr H Q :=
  fun M ρ w a hk h1 h2 h3 h4 => h M ρ w a hk (h1.mask ht hn) h2 h3 h4
theorem WL.maskH {K : Nat} {c : Code} {H2 : Heap} {Q : Post} (h : WL P B K r n c fr H2 Q) (ht : H2.t = H.t) (hn : H2.next = H.next) : WL P B K r n c fr H Q :=
  fun M ρ w a hk h1 h2 h3 h4 => h M ρ w a hk (h1.mask ht hn) h2 h3 h4

theorem dRound_ok (hrc : DSound P B rc) {c : Code} {R : MR} (h : dRound rc n c fr H = some R) (r : Option Nat) : ROk (dmask c) fr H R (fun K => WL P B K r n c fr H) ∧ ROk (dmask c) fr H R (fun K => WC P B K r n (.loop c) fr H) := by
  unfold dRound at h
  split at h
  · cases h
  · rename_i R1 hR1
    obtain ⟨k1, k2, k3⟩ := hrc _ _ _ _ _ _ hR1 r
    have k3 : obOk R1.ob → ∀ K, K ≤ H.next → WC P B K r n c fr H (R1.post K) := k3
    split at h
    · rename_i hn
      cases h
      have none' : ∀ K fr' H', R.post K .nor fr' H' → WL P B K r n c fr' H' (R.post K) := fun K fr' H' hp => let ⟨o, p1, _⟩ := hp; (lkO_none hn o p1).elim
      exact ⟨⟨k1, k2, fun ho K hK => WL.round (k3 ho K hK) (none' K) fun x fr' H' _ hp => hp⟩, ⟨k1, k2, fun ho K hK => WC.loop (k3 ho K hK) (none' K) fun x fr' H' _ hp => hp⟩⟩
    · rename_i o hl
      have hmo := lkO_mem hl
      split at h
      · rename_i hg
        rw [forced_eq, Option.map_eq_some_iff] at h
        obtain ⟨R2, hR2, rfl⟩ := h
        obtain ⟨m1, m2, m3⟩ := hrc _ _ _ _ _ _ hR2 r
        have m3 : obOk R2.ob → ∀ K, K ≤ o.H.next → WL P B K r n c o.fr o.H (R2.post K) := m3
        have hon : o.on := by unfold Out.on; rw [hg]; rfl
        have s := (k2.outs _ _ hmo).step
        have keep : RKeep (dmask c) fr H R2.kb R2.outs := m2.trans s (fun t h => h) fun t h => h
        have next : obOk R2.ob → ∀ K, K ≤ H.next → ∀ fr' H', R1.post K .nor fr' H' → WL P B K r n c fr' H' (R2.post K) := fun ho K hK fr' H' hp => by
          obtain ⟨o', p1, p2, p3⟩ := hp
          have := nodup_unique k1.nd hmo p1
          subst this
          exact WL.abs p3 (m3 ho K (Nat.le_trans hK s.n))
        have out : ∀ K x fr' H', x ≠ XT.nor → R1.post K x fr' H' → (R2.post K) x fr' H' := fun K x fr' H' hx hp => by
          obtain ⟨o', p1, p2, p3⟩ := hp
          exact (hx (k1.ex _ _ _ _ p1 hmo p2 hon)).elim
        exact ⟨⟨m1, keep, fun ho K hK => WL.round (k3 (andOb_inv ho).1 K hK) (next (andOb_inv ho).2 K hK) (out K)⟩, ⟨m1, keep, fun ho K hK => WC.loop (k3 (andOb_inv ho).1 K hK) (next (andOb_inv ho).2 K hK) (out K)⟩⟩
      · cases h

theorem dStep_sound (hm : P.follows .mixedOrders = true) (hS : SumPOk P B S) (hrc : DSound P B rc) : DSound P B (dStep P S rc) := by
  intro begun n c fr H R h r
  unfold dStep at h
  split at h
  · exact (dRound_ok hrc h r).1
  · show ROk _ fr H R fun K => WC P B K r n c fr H
    split at h
    · cases h; exact ROk.one fun K Q hq => WC.skip hq
    · cases h; exact ROk.one fun K Q hq => WC.label hq
    · cases h; exact ROk.one fun K Q hq => WC.exit hq
    · cases h; exact ROk.one fun K Q hq => WC.ret hq
    · rename_i x y
      split at h
      · cases h
      · rename_i R1 hR1
        obtain ⟨k1, k2, k3⟩ := hrc _ _ _ _ _ _ hR1 r
        have k3 : obOk R1.ob → ∀ K, K ≤ H.next → WC P B K r n x fr H (R1.post K) := k3
        have d1 : ∀ t, (dmask (.seq x y)).testBit t = false → (dmask x).testBit t = false := fun t ht => (or_clean.1 (show (dmask x ||| dmask y).testBit t = false from ht)).1
        have d2 : ∀ t, (dmask (.seq x y)).testBit t = false → (dmask y).testBit t = false := fun t ht => (or_clean.1 (show (dmask x ||| dmask y).testBit t = false from ht)).2
        obtain ⟨m1, m2, m3⟩ := dSeq_ok (m := dmask (.seq x y)) h k1 k2 d1 d2 fun o H' R2 _ e => by rw [forced_eq] at e; exact ⟨(hrc _ _ _ _ _ _ e r).ok, (hrc _ _ _ _ _ _ e r).keep⟩
        refine ⟨m1, m2, fun ho K hK => ?_⟩
        obtain ⟨n1, n0⟩ := m3 ho
        obtain ⟨n2, n3⟩ := n0 K hK
        refine WC.seq (k3 n1 K hK) (fun fr' H' hp => ?_) (fun z fr' H' hz hp => ?_)
        · obtain ⟨o, p1, p2, p3⟩ := hp
          obtain ⟨H2, R2, q0, q0', q1, q2, q3⟩ := n3 o p1 p2
          rw [forced_eq] at q1
          have hn2 := (k2.outs _ _ p1).n
          have hw : WC P B K r n y o.fr H2 (R2.post K) := (hrc _ _ _ _ _ _ q1 r).w q2 K (by rw [q0']; exact Nat.le_trans hK hn2)
          exact WC.abs p3 (WC.maskH (hw.mono (post_of q3)) q0 q0')
        · obtain ⟨o, p1, p2, p3⟩ := hp
          obtain ⟨o', q1, q2, q3⟩ := n2 z o hz p1 p2
          exact ⟨o', q1, q2, p3.trans q3⟩
    · rename_i x c d
      have d1 : ∀ t, (dmask (.cond x c d)).testBit t = false → (dmask c).testBit t = false := fun t ht => (or_clean.1 (show (dmask c ||| dmask d).testBit t = false from ht)).1
      have d2 : ∀ t, (dmask (.cond x c d)).testBit t = false → (dmask d).testBit t = false := fun t ht => (or_clean.1 (show (dmask c ||| dmask d).testBit t = false from ht)).2
      split at h
      · rename_i t ht
        obtain ⟨k1, k2, k3⟩ := hrc _ _ _ _ _ _ h r
        refine ⟨k1, k2.trans (Step.refl (dmask (bif t then c else d)) _ _) ?_ ?_, fun ho K hK => WC.cond ht (k3 ho K hK)⟩
        · cases t <;> assumption
        · cases t <;> assumption
      · rename_i b hb
        refine dJoin_ok (m := dmask c ||| dmask d) (fun K Q Q' hq hw => hw.mono hq) h (Near.refl _ _) (Near.refl _ _) d1 d2 (fun R1 e => ?_) (fun R2 e => ?_)
        · obtain ⟨k1, k2, k3⟩ := hrc _ _ _ _ _ _ e r
          have k3 : obOk R1.ob → ∀ K, K ≤ H.fresh.next → WC P B K r n c fr H.fresh (R1.post K) := k3
          exact ⟨k1, k2, fun eb ho K hK => WC.condS' hb (fun _ => WC.maskH (k3 ho K hK) rfl rfl) fun e2 => by rw [eb] at e2; cases e2⟩
        · obtain ⟨k1, k2, k3⟩ := hrc _ _ _ _ _ _ e r
          have k3 : obOk R2.ob → ∀ K, K ≤ H.fresh.next → WC P B K r n d fr H.fresh (R2.post K) := k3
          exact ⟨k1, k2, fun eb ho K hK => WC.condS' hb (fun e2 => by rw [eb] at e2; cases e2) fun _ => WC.maskH (k3 ho K hK) rfl rfl⟩
      · cases h
    · rename_i id c
      split at h
      · cases h
      · rename_i R1 hR1
        obtain ⟨k1, k2, k3⟩ := hrc _ _ _ _ _ _ hR1 r
        have k3 : obOk R1.ob → ∀ K, K ≤ H.next → WC P B K r n c fr H (R1.post K) := k3
        obtain ⟨m1, m2, m0, m3⟩ := dBlk_ok h k1 k2
        refine ⟨m1, m2, fun ho K hK => WC.block ((k3 (m0 ▸ ho) K hK).mono fun x fr' H' hp => ?_)⟩
        obtain ⟨o, p1, p2, p3⟩ := hp
        obtain ⟨o', q1, q2, q3⟩ := m3 K hK x o p1 p2
        have hq : R.post K (if x = .ex id then XT.nor else x) fr' H' := ⟨o', q1, q2, p3.trans q3⟩
        cases x with
        | nor => rwa [if_neg (by simp)] at hq
        | ret => rwa [if_neg (by simp)] at hq
        | ex id' =>
          simp only
          by_cases e : id' = id
          · subst e; rw [if_pos rfl] at hq ⊢; exact hq
          · rw [if_neg (by simp [e])] at hq; rw [if_neg e]; exact hq
    · exact (dRound_ok hrc h r).2
    · exact let ⟨k1, k2, k3⟩ := dO_sound (r := r) hS hrc rmask_full _ _ _ _ h; ⟨k1, k2, fun ho K hK => WC.region (k3 ho K hK)⟩
    · rename_i id ops
      split at h
      · cases h
      · rename_i pl hpl
        unfold plan at hpl
        simp only at hpl
        cases hb : (backOk 0 ops.toList && okPlan P ops (ancs ops) (mkPlan P ops (ancs ops) ops.size 0).heads 0 (mkPlan P ops (ancs ops) ops.size 0)) with
        | false => rw [hb] at hpl; cases hpl
        | true =>
          rw [hb] at hpl
          cases hpl
          rw [Bool.and_eq_true] at hb
          exact let ⟨k1, k2, k3⟩ := (dPl_sound (r := r) hS hrc rmask_full (anc_of hb.1) _ 0 _ _ _ (fun j o _ hj => by simp at hj) h).2 hb.2; ⟨k1, k2, fun ho K hK => WC.drawn hm (k3 ho K hK)⟩
    · obtain ⟨k1, k2, k3⟩ := hrc _ _ _ _ _ _ h r
      exact ⟨k1, k2, fun ho K hK => WC.scope (k3 ho K hK)⟩
    · cases h

theorem dC_sound (hm : P.follows .mixedOrders = true) (hS : SumPOk P B S) : ∀ k, DSound P B (dC P S k)
  | 0 => fun _ _ _ _ _ _ h => by cases h
  | k + 1 => dStep_sound hm hS (dC_sound hm hS k)

theorem outsP_mem {Q : Post} : ∀ {l : List (XT × Out)}, outsP Q l → ∀ x o, (x, o) ∈ l → o.on → Q x o.fr o.H
  | [], _, x, o, hm, _ => by cases hm
  | [p], h, x, o, hm, hon => by
    rw [List.mem_singleton] at hm; subst hm
    unfold outsP at h
    simp only at h
    split at h
    · exact h
    · rename_i g hg; exact h (by unfold Out.on at hon; rw [hg] at hon; exact hon)
  | p :: q :: l, h, x, o, hm, hon => by
    unfold outsP at h
    simp only at h
    rcases List.mem_cons.1 hm with rfl | hm
    · have h := h.1
      split at h
      · exact h
      · rename_i g hg; exact h (by unfold Out.on at hon; rw [hg] at hon; exact hon)
    · exact outsP_mem h.2 x o hm hon

/-- Only as many names are kept as there are. -/
theorem WC.names {K : Nat} {c : Code} {Q : Post} (h : K ≤ H.next → WC P B K r n c fr H Q) : WC P B K r n c fr H Q :=
  fun M ρ w a hk h1 h2 h3 h4 => h (by rw [h1.next]; exact hk) M ρ w a hk h1 h2 h3 h4

theorem ROk.outs {m K : Nat} {c : Code} {R : MR} {Q : Post} (h : ROk m fr H R fun K => WC P B K r n c fr H) (ho : obOk R.ob) (hq : outsP Q R.outs) : WC P B K r n c fr H Q :=
  WC.names fun hK => WC.absPost ((h.w ho K hK).mono fun x fr' H' ⟨o, h1, h2, h3⟩ => ⟨o.fr, o.H, h3, outsP_mem hq x o h1 h2⟩)

theorem WO.names {K : Nat} {l : List Nat} {Q : Fr → Heap → Prop} (h : K ≤ H.next → WO P B K r n ops l fr H Q) : WO P B K r n ops l fr H Q :=
  fun M ρ w a hk h1 h2 h3 h4 => h (by rw [h1.next]; exact hk) M ρ w a hk h1 h2 h3 h4

theorem WO.absPost {K : Nat} {l : List Nat} {Q : Fr → Heap → Prop} (h : WO P B K r n ops l fr H fun f H' => ∃ f2 H2, Abs K f H' f2 H2 ∧ Q f2 H2) : WO P B K r n ops l fr H Q :=
  fun M ρ w a h0 h1 h2 h3 h4 => wpOpsIn_mono (fun e a' w' ⟨x, fr', H', ρ', g1, ⟨g2, f2, H2, ha, hq⟩, g3, g4, g5, g6, g7⟩ =>
    let ⟨ρ2, k1, k2, k3⟩ := ha B ρ' w' a'.tmps g3.kle g4 g5
    ⟨x, f2, H2, ρ2, g1, ⟨g2, hq⟩, g3.trans k3, k1, k2, g6, g7.extK k3⟩) l a w (h M ρ w a h0 h1 h2 h3 h4)

theorem ROk.outsO {m K : Nat} {l : List Nat} {R : MR} {k : Fr → Heap → Prop} (h : ROk m fr H R fun K Q => WO P B K r n ops l fr H fun f' H' => Q .nor f' H') (ho : obOk R.ob) (hq : outsP (fun _ f' H' => k f' H') R.outs) : WO P B K r n ops l fr H k :=
  WO.names fun hK => WO.absPost ((h.w ho K hK).mono fun fr' H' ⟨o, h1, h2, h3⟩ => ⟨o.fr, o.H, h3, outsP_mem (Q := fun _ f' H' => k f' H') hq .nor o h1 h2⟩)
end
end Go.AM
set_option linter.unusedSimpArgs false
set_option linter.unusedVariables false
namespace Go.AM
noncomputable section
section
variable (P : Program) (S : SumP) (L : LTab) (mc : MC) (rc : VC)

def vPut (n : Nat) (fr : Fr) (dst : Option Tmp) (v : AV) (H : Heap) (k : KO) : Prop :=
  match aput n fr dst v with
  | none => Stuck "put"
  | some fr' => k fr' H

def vPutS (g : Bool) (n : Nat) (fr : Fr) (dst : Option Tmp) (v : AV) (H : Heap) (k : KO) : Prop :=
  match v with
  | .sB b => match g with
    | false => vPut n fr dst (.sB b) H k
    | true => (b = true → vPut n fr dst (.bool true) H k) ∧ (b = false → vPut n fr dst (.bool false) H k)
  | v => vPut n fr dst v H k

/-- A function's body, path by path, that defers nothing. -/
def vBody1 (f : FuncId) (args : List AV) (H : Heap) (Q : KF) : Prop := match P.funcs[f]? with
  | none => Stuck "no function"
  | some fn => match fn.body with
    | none => Stuck fn.name
    | some c => rc f false false H.next (args.length + (fn.ntmps - args.length)) c (initFr args 0 .nil) H fun x fr' H' => match x with
      | .ex _ => Stuck "exit"
      | _ => match ares P fn fr' H' with
        | none => Stuck "results"
        | some v => Q v H'

def vF1 (f : FuncId) (args : List AV) (H : Heap) (Q : KF) : Prop :=
  match S f args H with
  | some (.val v) => Q v H
  | some (.fn ob v H') => withOb ob (Q v H')
  | some (.gen φ) => φ Q
  | some .path => vBody1 P rc f args H Q
  | none => vBody1 P rc f args H Q

/-- Does code defer a call? -/
def isDefer (o : Oper) : Bool := match o.op with
  | .defer _ => true
  | _ => false

def hasDefer : Code → Bool
  | .region _ ops _ => ops.toList.any isDefer
  | .seq a b => hasDefer a || hasDefer b
  | .cond _ a b => hasDefer a || hasDefer b
  | .block _ a => hasDefer a
  | .loop a => hasDefer a
  | .scope a => hasDefer a
  | .rangeFunc _ _ a b => hasDefer a || hasDefer b
  | _ => false

abbrev KD := XT → Fr → Heap → List DC → Prop

/-- The operations of a region that defers calls. -/
def vOD (n : Nat) (ops : Array Oper) : List Nat → Fr → Heap → List DC → KD → Prop
  | [], fr, H, D, k => k .nor fr H D
  | i :: rest, fr, H, D, k => match ops[i]? with
    | none => Stuck "ops"
    | some o => match aWant ops fr o with
      | none => Stuck "want"
      | some false => vPut n fr o.dst (.tup []) H fun fr' H' => vOD n ops rest fr' H' D k
      | some true => match o.op with
        | .defer c => match c.callee with
          | .value x => match aeval fr x with
            | none => Stuck "defer what"
            | some fv => match evalL fr c.args.toList with
              | none => Stuck "defer args"
              | some args => match aCallV P fv args with
                | some (.call f as) => vPut n fr o.dst (.tup []) H fun fr' H' => vOD n ops rest fr' H' ((f, as) :: D) k
                | _ => Stuck "defer"
          | _ => Stuck "defer callee"
        | _ => match aopC P fr H o with
          | none => Stuck o.pos
          | some (ob, r) => withOb ob (match r with
            | .val v H' => vPutS (usedG ops o.dst) n fr o.dst v H' fun fr' H' => vOD n ops rest fr' H' D k
            | .call f args => vF1 P S rc f args H fun v H' => vPut n fr o.dst v H' fun fr' H' => vOD n ops rest fr' H' D k
            | _ => Stuck "defer op")

/-- The spine of a function that defers. -/
def vD (f : FuncId) (n : Nat) : Code → Fr → Heap → List DC → KD → Prop
  | .seq x y, fr, H, D, k => bif hasDefer x then vD f n x fr H D fun e fr' H' D' => match e with
        | .nor => forceS fr' H' fun fr' H' => vD f n y fr' H' D' k
        | e => k e fr' H' D'
      else rc f false false H.next n x fr H fun e fr' H' => match e with
        | .nor => forceS fr' H' fun fr' H' => vD f n y fr' H' D k
        | e => k e fr' H' D
  | .region id ops d, fr, H, D, k => bif !d && ops.toList.any isDefer then vOD P S rc n ops (List.range ops.size) fr H D k
      else rc f false false H.next n (.region id ops d) fr H fun e fr' H' => k e fr' H' D
  | c, fr, H, D, k => rc f false false H.next n c fr H fun e fr' H' => k e fr' H' D

/-- The deferred calls, one behind the other. -/
def vLeave : List DC → Heap → (Heap → Prop) → Prop
  | [], H, q => q H
  | d :: D, H, q => match P.funcs[d.1]? with
    | none => Stuck "no function"
    | some fn => match fn.body with
      | none => Stuck fn.name
      | some c => rc d.1 false false H.next (d.2.length + (fn.ntmps - d.2.length)) c (initFr d.2 0 .nil) H fun x fr' H' => match x with
        | .ex _ => Stuck "exit"
        | _ => match ares P fn fr' H' with
          | none => Stuck "results"
          | some _ => vLeave D H' q

/-- A function's body, path by path. -/
def vBody (f : FuncId) (args : List AV) (H : Heap) (Q : KF) : Prop := match P.funcs[f]? with
  | none => Stuck "no function"
  | some fn => match fn.body with
    | none => Stuck fn.name
    | some c => bif hasDefer c then vD P S rc f (args.length + (fn.ntmps - args.length)) c (initFr args 0 .nil) H [] fun x fr' H' D => match x with
        | .ex _ => Stuck "exit"
        | _ => vLeave P rc D H' fun H2 => match ares P fn fr' H2 with
          | none => Stuck "results"
          | some v => Q v H2
      else rc f false false H.next (args.length + (fn.ntmps - args.length)) c (initFr args 0 .nil) H fun x fr' H' => match x with
        | .ex _ => Stuck "exit"
        | _ => match ares P fn fr' H' with
          | none => Stuck "results"
          | some v => Q v H'

def vF (f : FuncId) (args : List AV) (H : Heap) (Q : KF) : Prop :=
  match S f args H with
  | some (.val v) => Q v H
  | some (.fn ob v H') => withOb ob (Q v H')
  | some (.gen φ) => φ Q
  | some .path => vBody P S rc f args H Q
  | none => match dF P S mc f args H with
    | some (ob, v, H') => withOb ob (Q v H')
    | none => vBody P S rc f args H Q

def vY (l : Nat) (args : List AV) (H : Heap) (Q : Bool → Heap → Prop) : Prop :=
  match H.get l with
  | some (.loop _ _ f fr0 nt ps as bd) => match setParams nt fr0 ps args with
    | none => Stuck "params"
    | some fr1 => rc f true false H.next nt as fr1 H fun x fr2 H2 => match x with
      | .nor => match H2.get l with
        | some (.loop .ready pd fn fr0 nt' ps as bd') => rc f true false H.next nt bd fr2 (H2.set l (.loop .busy pd fn fr0 nt' ps as bd')) fun x fr3 H3 => match H3.get l with
            | some (.loop _ _ fn fr0 nt ps as bd) => Q x.isNor (H3.set l (.loop (bif x.isNor then .ready else .done) (jumpOf x) fn fr0 nt ps as bd))
            | _ => Stuck "loop gone"
        | _ => Stuck "loop not ready"
      | _ => Stuck "assign leaves"
  | _ => Stuck "no loop"

def vOp (n : Nat) (ops : Array Oper) (o : Oper) (k : KO) (fr : Fr) (H : Heap) : Prop :=
  match aWant ops fr o with
  | none => Stuck "want"
  | some false => vPut n fr o.dst (.tup []) H k
  | some true => match aopC P fr H o with
    | none => Stuck o.pos
    | some (ob, r) => withOb ob (match r with
      | .val v H' => vPutS (usedG ops o.dst) n fr o.dst v H' k
      | .opts l => allQ (fun q : AV × Heap => vPut n fr o.dst q.1 q.2 k) l
      | .fams l => allQ (fun q : (Nat → Prop) × (Nat → AV × Heap) => ∀ j : Nat, q.1 j → vPut n fr o.dst (q.2 j).1 (q.2 j).2 k) l
      | .call f args => vF P S mc rc f args H fun v H' => vPutS (usedG ops o.dst) n fr o.dst v H' k
      | .yield l args => vY rc l args H fun b H' => vPut n fr o.dst (.bool b) H' k)

/-- Operations one behind the other; where told so, what is left of the region is told as one, if it can be. -/
def vO (n : Nat) (ops : Array Oper) : Bool → List Nat → Fr → Heap → KO → Prop
  | _, [], fr, H, k => k fr H
  | t, i :: rest, fr, H, k => match (match t with
      | true => dO P S mc (rmask ops) n ops (i :: rest) fr H
      | false => none) with
    | some R => withOb R.ob (outsP (fun _ fr' H' => k fr' H') R.outs)
    | none => match ops[i]? with
      | none => Stuck "ops"
      | some o => vOp P S mc rc n ops o (fun fr' H' => vO n ops (!(roOp P o.op)) rest fr' H' k) fr H

def vPl (n : Nat) (ops : Array Oper) : Pl → Fr → Heap → KO → Prop
  | .done, fr, H, k => k fr H
  | .ro i rest, fr, H, k => match ops[i]? with
    | none => Stuck "ops"
    | some o => match roX P ops fr H o with
      | none => Stuck o.pos
      | some (p, v) => withOb p (vPutS (usedG ops o.dst) n fr o.dst v H fun fr' H' => vPl n ops rest fr' H' k)
  | .loud i js rest, fr, H, k => match ops[i]? with
    | none => Stuck "ops"
    | some o => vOp P S mc rc n ops o (fun fr' H' => vChk P ops fr' H' js (vPl n ops rest fr' H' k)) fr H
  | .both a b, fr, H, k => vPl n ops a fr H k ∧ vPl n ops b fr H k

def vR (f0 : FuncId) (K n : Nat) (g : Operand) (ps : Array Tmp) (as bd : Code) (fr : Fr) (H : Heap) (Q : Post) : Prop :=
  match aeval fr g with
  | none => Stuck "range over what"
  | some gv => match aCallV P gv [.yld H.next] with
    | some (.call f args) => vF P S mc rc f args (H.alloc (.loop .ready none f0 fr n ps.toList as bd)) fun _ H2 => match H2.get H.next with
      | some (.loop st pd fn fr0 nt ps as bd) => bif st == .busy then Stuck "busy" else match pd with
        | none => Q .nor fr (H2.set H.next (.loop .exhausted pd fn fr0 nt ps as bd))
        | some c => rc f0 false false K n c fr (H2.set H.next (.loop .exhausted pd fn fr0 nt ps as bd)) Q
      | _ => Stuck "range record"
    | _ => Stuck "range call"

/-- A round, and what comes behind it. -/
def vThen (f : FuncId) (inR : Bool) (K n : Nat) (c : Code) (Q : Post) : Post := fun x fr' H' => match x with
  | .nor => forceS fr' H' fun fr' H' => rc f inR true K n c fr' H' Q
  | x => Q x fr' H'

def vBlk (id : Nat) (Q : Post) : Post := fun x fr' H' => match x with
  | .ex id' => bif Nat.beq id' id then Q .nor fr' H' else Q (.ex id') fr' H'
  | x => Q x fr' H'

def vSeq (f : FuncId) (inR : Bool) (K n : Nat) (y : Code) (Q : Post) : Post := fun x fr' H' => match x with
  | .nor => forceS fr' H' fun fr' H' => rc f inR false K n y fr' H' Q
  | x => Q x fr' H'

def vBack (li : LInv) (K : Nat) (fr : Fr) (H : Heap) (s : li.σ) (Q : Post) : Post := fun x fr' H' => match x with
  | .nor => ∃ s', li.inv s' ∧ li.mu s' < li.mu s ∧ vMs K (li.st s' fr H) fr' H'
  | x => Q x fr' H'

def vLoop (li : LInv) (f : FuncId) (inR : Bool) (K n : Nat) (c : Code) (fr : Fr) (H : Heap) (Q : Post) : Prop :=
  ∃ s0, li.inv s0 ∧ vMs K (li.st s0 fr H) fr H ∧ ∀ s, li.inv s →
    impP (rngT rngV (frOf (li.st s fr H).1) ++ rngT rngO (li.st s fr H).2.t) (rc f inR false K n c (frOf (li.st s fr H).1) (li.st s fr H).2 (vBack li K fr H s Q))

/-- A cut: what holds between two pieces of code. -/
def vCutQ (li : LInv) (K : Nat) (fr : Fr) (H : Heap) (Q : Post) : Post := fun x fr' H' => match x with
  | .nor => ∃ s', li.inv s' ∧ vMs K (li.st s' fr H) fr' H'
  | x => Q x fr' H'

def vCut (li : LInv) (f : FuncId) (inR : Bool) (K n : Nat) (x y : Code) (fr : Fr) (H : Heap) (Q : Post) : Prop :=
  rc f inR false K n x fr H (vCutQ li K fr H Q) ∧ ∀ s, li.inv s →
    impP (rngT rngV (frOf (li.st s fr H).1) ++ rngT rngO (li.st s fr H).2.t) (rc f inR false K n y (frOf (li.st s fr H).1) (li.st s fr H).2 Q)

/-- With this key in the table: path by path throughout a function. -/
def noMrg : Nat := 3000000

def mayM (f : FuncId) (fr : Fr) (H : Heap) : Bool := match L f noMrg fr H with
  | some _ => false
  | none => true

/-- One piece told as one, if it can be. -/
def vTry (f : FuncId) (K n : Nat) (c : Code) (fr : Fr) (H : Heap) (Q : Post) (q : Prop) : Prop := match mayM L f fr H with
  | false => q
  | true => match mc false n c fr H with
    | none => q
    | some R => withOb R.ob (outsP Q R.outs)

/-- The cuts' keys in the table begin here. -/
def cutKey (k : Nat) : Nat := 1000000 + k

/-- The last region of a piece. -/
def lastReg : Code → Option Nat
  | .region id _ _ => some id
  | .seq a b => match lastReg b with
    | some i => some i
    | none => lastReg a
  | .cond _ a b => match lastReg b with
    | some i => some i
    | none => lastReg a
  | .block _ a => lastReg a
  | .loop a => lastReg a
  | .scope a => lastReg a
  | .rangeFunc _ _ a b => match lastReg b with
    | some i => some i
    | none => lastReg a
  | _ => none

/-- A cut's key: by what comes behind it; where that is no region, by what lies ahead. -/
def seqKey (x y : Code) : Nat := match firstReg y with
  | some k => cutKey k
  | none => 4000000 + (lastReg x).getD 0

def vStep : VC := fun f inR begun K n c fr H Q =>
  match begun with
  | true => match L f (codeKey c) fr H with
    | some li => vLoop rc li f inR K n c fr H Q
    | none => rc f inR false K n c fr H (vThen rc f inR K n c Q)
  | false => match c with
    | .skip => Q .nor fr H
    | .label _ => Q .nor fr H
    | .exit id => Q (.ex id) fr H
    | .ret => Q .ret fr H
    | .seq x y => match L f (seqKey x y) fr H with
      | some li => vCut rc li f inR K n x y fr H Q
      | none => rc f inR false K n x fr H (vSeq rc f inR K n y Q)
    | .cond x c d => match aeval fr x with
      | some (.bool t) => rc f inR false K n (bif t then c else d) fr H Q
      | some (.sB b) => vTry L mc f K n (.cond x c d) fr H Q ((b = true → rc f inR false K n c fr H Q) ∧ (b = false → rc f inR false K n d fr H Q))
      | _ => Stuck "cond"
    | .block id c => rc f inR false K n c fr H (vBlk id Q)
    | .loop c => match L f (codeKey c) fr H with
      | some li => vLoop rc li f inR K n c fr H Q
      | none => rc f inR false K n c fr H (vThen rc f inR K n c Q)
    | .region id ops false => vTry L mc f K n (.region id ops false) fr H Q (vO P S mc rc n ops (!(mayM L f fr H)) (List.range ops.size) fr H (Q .nor))
    | .region id ops true => vTry L mc f K n (.region id ops true) fr H Q (match plan P ops with
      | none => Stuck "plan"
      | some pl => vPl P S mc rc n ops pl fr H (Q .nor))
    | .rangeFunc g ps as bd => match inR with
      | true => Stuck "range in a round"
      | false => vR P S mc rc f K n g ps as bd fr H Q
    | .scope c => rc f inR false K n c fr H Q
    | _ => Stuck "code"

end

section
variable (P : Program) (S : SumP) (L : LTab)
def vC : Nat → VC
  | 0 => fun _ _ _ _ _ _ _ _ _ => Stuck "fuel"
  | k + 1 => vStep P S L (dC P S k) (vC k)

/-- What is owed for a function. -/
def vTop (k : Nat) (f : FuncId) (args : List AV) (H : Heap) (Q : KF) : Prop := vBody P S (vC P S L k) f args H Q
end
end
end Go.AM
set_option linter.unusedSimpArgs false
set_option linter.unusedVariables false
namespace Go.AM
open Go.RowKit
/-! ### Code -/
section
variable {P : Program} {B K : Nat} {r : Option Nat} {n : Nat} {fr : Fr} {H : Heap} {S : SumP} {L : LTab} {mc : MC} {rc : VC} {ops : Array Oper}

structure VSound (P : Program) (B : Nat) (rc : VC) : Prop where
  c : ∀ f inR K n c fr H Q, rc f inR false K n c fr H Q → ∀ r : Option Nat, (inR = false → r = none) → WC P B K r n c fr H Q
  l : ∀ f inR K n c fr H Q, rc f inR true K n c fr H Q → ∀ r : Option Nat, (inR = false → r = none) → WL P B K r n c fr H Q

theorem WY.mono {i : Nat} {args : List AV} {Q Q' : Bool → Heap → Prop} (h : WY P B i args H Q) (hq : ∀ b H, Q b H → Q' b H) : WY P B i args H Q' :=
  fun ρ w e xs r h1 h2 h3 => let ⟨f, tmps, as, bd, g1, g2⟩ := h ρ w e xs r h1 h2 h3
    ⟨f, tmps, as, bd, g1, RoundIn.mono g2 fun en w' ⟨b, H', ρ', k1, k2, k3⟩ => ⟨b, H', ρ', k1, hq _ _ k2, k3⟩⟩

theorem vPut_inv {dst : Option Tmp} {v : AV} {k : KO} (h : vPut n fr dst v H k) : ∃ fr', aput n fr dst v = some fr' ∧ k fr' H := by
  unfold vPut at h
  split at h
  · exact nomatch h
  · rename_i fr' hp; exact ⟨fr', hp, h⟩

theorem vPutS_inv {g : Bool} {dst : Option Tmp} {v : AV} {k : KO} (h : vPutS g n fr dst v H k) : ∃ v' fr', v'.ub = v.ub ∧ aput n fr dst v' = some fr' ∧ k fr' H := by
  unfold vPutS at h
  split at h
  · rename_i b
    split at h
    · obtain ⟨fr', h1, h2⟩ := vPut_inv h; exact ⟨.sB b, fr', rfl, h1, h2⟩
    · cases b with
      | true => obtain ⟨fr', h1, h2⟩ := vPut_inv (h.1 rfl); exact ⟨.bool true, fr', rfl, h1, h2⟩
      | false => obtain ⟨fr', h1, h2⟩ := vPut_inv (h.2 rfl); exact ⟨.bool false, fr', rfl, h1, h2⟩
  · obtain ⟨fr', h1, h2⟩ := vPut_inv h; exact ⟨v, fr', rfl, h1, h2⟩

theorem WF.split {f : FuncId} {args : List AV} {g : Bool} {dst : Option Tmp} {k : KO} (h : WF P B f args H fun v H' => vPutS g n fr dst v H' k) : WF P B f args H fun v H' => ∃ fr', aput n fr dst v = some fr' ∧ k fr' H' := by
  cases g with
  | false =>
    refine h.mono fun v H' hq => ?_
    unfold vPutS at hq
    split at hq
    · exact vPut_inv hq
    · exact vPut_inv hq
  | true =>
    refine h.ub.mono ?_
    rintro v' H' ⟨v, hq, rfl⟩
    unfold vPutS at hq
    split at hq
    · rename_i b
      cases b with
      | true => exact vPut_inv (hq.1 rfl)
      | false => exact vPut_inv (hq.2 rfl)
    · rename_i hns
      have : v.ub = v := by cases v <;> first | rfl | exact (hns _ rfl).elim
      rw [this]; exact vPut_inv hq

theorem vBody1_sound (hrc : VSound P B rc) {f : FuncId} {args : List AV} {Q : KF} (h : vBody1 P rc f args H Q) : WF P B f args H Q := by
  unfold vBody1 at h
  split at h
  · exact nomatch h
  · rename_i fn hf
    split at h
    · exact nomatch h
    · rename_i c hb
      refine WF.body hf hb ((hrc.c _ _ _ _ _ _ _ _ h none fun _ => rfl).mono ?_)
      intro x fr' H' hm
      cases x with
      | ex id => exact nomatch hm
      | nor =>
        simp only at hm
        split at hm
        · exact nomatch hm
        · rename_i v hv; exact ⟨.inl rfl, v, hv, hm⟩
      | ret =>
        simp only at hm
        split at hm
        · exact nomatch hm
        · rename_i v hv; exact ⟨.inr rfl, v, hv, hm⟩

theorem vF1_sound (hS : SumPOk P B S) (hrc : VSound P B rc) {f : FuncId} {args : List AV} {Q : KF} (h : vF1 P S rc f args H Q) : WF P B f args H Q := by
  unfold vF1 at h
  split at h
  · rename_i v hv; exact (show WF P B f args H _ from hS f args H _ hv).mono fun v' H' ⟨e1, e2⟩ => by rw [e1, e2]; exact h
  · rename_i ob v H2 hv
    obtain ⟨ho, h⟩ := withOb_inv h
    exact (show WF P B f args H _ from hS f args H _ hv ho).mono fun v' H' ⟨e1, e2⟩ => by rw [e1, e2]; exact h
  · rename_i φ hφ; exact (show ∀ Q, φ Q → WF P B f args H Q from hS f args H _ hφ) Q h
  · exact vBody1_sound hrc h
  · exact vBody1_sound hrc h

theorem vOD_sound (hS : SumPOk P B S) (hrc : VSound P B rc) : ∀ (l : List Nat) (fr : Fr) (H : Heap) (D : List DC) (k : KD), vOD P S rc n ops l fr H D k → WOD P B K n ops l fr H D k
  | [], fr, H, D, k, h => WOD.nil (by unfold vOD at h; exact h)
  | i :: rest, fr, H, D, k, h => by
    unfold vOD at h
    split at h
    · exact nomatch h
    · rename_i o ho
      split at h
      · exact nomatch h
      · rename_i hw
        obtain ⟨fr', hp, hk⟩ := vPut_inv h
        exact WOD.skipped ho hw hp (vOD_sound hS hrc rest _ _ _ _ hk)
      · rename_i hw
        split at h
        · rename_i c hop
          split at h
          · rename_i x hc
            split at h
            · exact nomatch h
            · rename_i fv hx
              split at h
              · exact nomatch h
              · rename_i args ha
                split at h
                · rename_i f as hcall
                  obtain ⟨fr', hp, hk⟩ := vPut_inv h
                  exact WOD.defer ho hw hop hc hx ha hcall hp (vOD_sound hS hrc rest _ _ _ _ hk)
                · exact nomatch h
          · exact nomatch h
        · split at h
          · exact nomatch h
          · rename_i ob q he
            obtain ⟨hob, h⟩ := withOb_inv h
            have he := aop_of he hob
            split at h
            · rename_i v H'
              obtain ⟨v', fr', hun, hp, hk⟩ := vPutS_inv h
              exact WOD.val' ho hw he hun hp (vOD_sound hS hrc rest _ _ _ _ hk)
            · rename_i f args
              refine WOD.call ho hw he ((vF1_sound hS hrc h).mono fun v H' hq => ?_)
              obtain ⟨fr', hp, hk⟩ := vPut_inv hq
              exact ⟨fr', hp, vOD_sound hS hrc rest _ _ _ _ hk⟩
            · exact nomatch h

theorem vD_sound (hS : SumPOk P B S) (hrc : VSound P B rc) {f : FuncId} : ∀ (c : Code) (fr : Fr) (H : Heap) (D : List DC) (k : KD), vD P S rc f n c fr H D k → K ≤ H.next → WB P B K n c fr H D k := by
  have base : ∀ (c : Code) (fr : Fr) (H : Heap) (D : List DC) (k : KD), (rc f false false H.next n c fr H fun e fr' H' => k e fr' H' D) → K ≤ H.next → WB P B K n c fr H D k :=
    fun c fr H D k h hk => WB.plain (hrc.c _ _ _ _ _ _ _ _ h none fun _ => rfl) hk
  intro c
  induction c with
  | seq x y ihx ihy =>
    intro fr H D k h hk
    unfold vD at h
    cases hd : hasDefer x with
    | true =>
      rw [hd] at h
      simp only [cond_true] at h
      refine WB.seqN (ihx fr H D _ h hk) (fun fr' H' D' hm hk' => ?_) (fun e fr' H' D' he hm => ?_)
      · simp only [forceS_eq] at hm
        exact ihy _ _ _ _ hm hk'
      · cases e with
        | nor => exact (he rfl).elim
        | ex id => exact hm
        | ret => exact hm
    | false =>
      rw [hd] at h
      simp only [cond_false] at h
      refine WB.seqN (R := fun e fr' H' D' => D' = D ∧ match e with
        | .nor => forceS fr' H' fun fr' H' => vD P S rc f n y fr' H' D k
        | e => k e fr' H' D) (WB.plain ((hrc.c _ _ _ _ _ _ _ _ h none fun _ => rfl).mono fun e fr' H' hm => ⟨rfl, hm⟩) hk) (fun fr' H' D' hm hk' => ?_) (fun e fr' H' D' he hm => ?_)
      · obtain ⟨rfl, hm⟩ := hm
        simp only [forceS_eq] at hm
        exact ihy _ _ _ _ hm hk'
      · obtain ⟨rfl, hm⟩ := hm
        cases e with
        | nor => exact (he rfl).elim
        | ex id => exact hm
        | ret => exact hm
  | region id ops d =>
    intro fr H D k h hk
    unfold vD at h
    cases d with
    | true => simp only [Bool.not_true, Bool.false_and, cond_false] at h; exact base _ _ _ _ _ h hk
    | false =>
      cases hd : ops.toList.any isDefer with
      | true =>
        rw [hd] at h
        simp only [Bool.not_false, Bool.true_and, cond_true] at h
        exact WB.region (vOD_sound hS hrc _ _ _ _ _ h)
      | false =>
        rw [hd] at h
        simp only [Bool.and_false, cond_false] at h
        exact base _ _ _ _ _ h hk
  | _ => intro fr H D k h hk; unfold vD at h; exact base _ _ _ _ _ h hk

theorem vLeave_sound (hrc : VSound P B rc) : ∀ (D : List DC) (H : Heap) (q : Heap → Prop), vLeave P rc D H q → LeaveW P B D H q
  | [], H, q, h => by unfold vLeave at h; exact h
  | d :: D, H, q, h => by
    unfold vLeave at h
    split at h
    · exact nomatch h
    · rename_i fn hf
      split at h
      · exact nomatch h
      · rename_i c hb
        refine WFD.body hf hb ((hrc.c _ _ _ _ _ _ _ _ h none fun _ => rfl).mono ?_)
        intro x fr' H' hm
        cases x with
        | ex id => exact nomatch hm
        | nor =>
          simp only at hm
          split at hm
          · exact nomatch hm
          · rename_i v hv; exact ⟨.inl rfl, v, hv, vLeave_sound hrc D H' q hm⟩
        | ret =>
          simp only at hm
          split at hm
          · exact nomatch hm
          · rename_i v hv; exact ⟨.inr rfl, v, hv, vLeave_sound hrc D H' q hm⟩

theorem vBody_sound (hS : SumPOk P B S) (hrc : VSound P B rc) {f : FuncId} {args : List AV} {Q : KF} (h : vBody P S rc f args H Q) : WF P B f args H Q := by
  unfold vBody at h
  split at h
  · exact nomatch h
  · rename_i fn hf
    split at h
    · exact nomatch h
    · rename_i c hb
      cases hd : hasDefer c with
      | false =>
        rw [hd] at h
        simp only [cond_false] at h
        exact vBody1_sound hrc (by unfold vBody1; simp only [hf, hb]; exact h)
      | true =>
        rw [hd] at h
        simp only [cond_true] at h
        refine WF.bodyD hf hb ((vD_sound hS hrc c _ _ _ _ h (Nat.le_refl _)).mono ?_)
        intro x fr' H' D hm
        cases x with
        | ex id => exact nomatch hm
        | nor =>
          simp only at hm
          refine ⟨.inl rfl, (vLeave_sound hrc _ _ _ hm).mono fun H2 hq => ?_⟩
          split at hq
          · exact nomatch hq
          · rename_i v hv; exact ⟨v, hv, hq⟩
        | ret =>
          simp only at hm
          refine ⟨.inr rfl, (vLeave_sound hrc _ _ _ hm).mono fun H2 hq => ?_⟩
          split at hq
          · exact nomatch hq
          · rename_i v hv; exact ⟨v, hv, hq⟩

theorem vF_sound (hS : SumPOk P B S) (hmc : DSound P B mc) (hrc : VSound P B rc) {f : FuncId} {args : List AV} {Q : KF} (h : vF P S mc rc f args H Q) : WF P B f args H Q := by
  unfold vF at h
  split at h
  · rename_i v hv; exact (show WF P B f args H _ from hS f args H _ hv).mono fun v' H' ⟨e1, e2⟩ => by rw [e1, e2]; exact h
  · rename_i ob v H2 hv
    obtain ⟨ho, h⟩ := withOb_inv h
    exact (show WF P B f args H _ from hS f args H _ hv ho).mono fun v' H' ⟨e1, e2⟩ => by rw [e1, e2]; exact h
  · rename_i φ hφ; exact (show ∀ Q, φ Q → WF P B f args H Q from hS f args H _ hφ) Q h
  · exact vBody_sound hS hrc h
  · split at h
    · rename_i ob v H' hd
      obtain ⟨ho, h⟩ := withOb_inv h
      exact ((dF_sound hS hmc hd).w ho).mono fun v' H' ⟨e1, e2⟩ => by rw [e1, e2]; exact h
    · exact vBody_sound hS hrc h

theorem vY_sound (hrc : VSound P B rc) {l : Nat} {args : List AV} {Q : Bool → Heap → Prop} (h : vY rc l args H Q) : WY P B l args H Q := by
  unfold vY at h
  split at h
  · rename_i st pd f fr0 nt ps as bd hi
    split at h
    · exact nomatch h
    · rename_i fr1 hp
      refine WY.round hi hp fun lr => (hrc.c _ _ _ _ _ _ _ _ h (some lr) fun hh => by cases hh).mono ?_
      intro x fr2 H2 hm
      cases x with
      | ex id => exact nomatch hm
      | ret => exact nomatch hm
      | nor =>
        simp only at hm
        split at hm
        · rename_i pd2 fn2 fr02 nt2 ps2 as2 bd2 hi2
          refine ⟨rfl, pd2, fn2, fr02, nt2, ps2, as2, bd2, hi2, (hrc.c _ _ _ _ _ _ _ _ hm (some lr) fun hh => by cases hh).mono ?_⟩
          intro x fr3 H3 hm3
          split at hm3
          · rename_i st3 pd3 fn3 fr03 nt3 ps3 as3 bd3 hi3
            exact ⟨st3, pd3, fn3, fr03, nt3, ps3, as3, bd3, hi3, hm3⟩
          · exact nomatch hm3
        · exact nomatch hm
  · exact nomatch h

theorem vO_sound (hS : SumPOk P B S) (hmc : DSound P B mc) (hrc : VSound P B rc) : ∀ (l : List Nat) (t : Bool) (fr : Fr) (H : Heap) (k : KO), vO P S mc rc n ops t l fr H k → WO P B K r n ops l fr H k
  | [], t, fr, H, k, h => WO.nil (by unfold vO at h; exact h)
  | i :: rest, t, fr, H, k, h => by
    unfold vO at h
    split at h
    · rename_i R hR
      obtain ⟨ho, h⟩ := withOb_inv h
      cases t with
      | false => cases hR
      | true => exact ROk.outsO (dO_sound (r := r) hS hmc rmask_full _ _ _ _ hR) ho h
    split at h
    · exact nomatch h
    · rename_i o ho
      have ih := fun fr' H' (hh : vO P S mc rc n ops (!(roOp P o.op)) rest fr' H' k) => vO_sound hS hmc hrc rest _ fr' H' k hh
      unfold vOp at h
      split at h
      · exact nomatch h
      · rename_i hw
        obtain ⟨fr', hp, hk⟩ := vPut_inv h
        exact WO.skipped ho hw hp (ih _ _ hk)
      · rename_i hw
        split at h
        · exact nomatch h
        · rename_i ob q he
          obtain ⟨hob, h⟩ := withOb_inv h
          have he := aop_of he hob
          split at h
          · rename_i v H'
            obtain ⟨v', fr', hun, hp, hk⟩ := vPutS_inv h
            exact WO.val' ho hw he hun hp (ih _ _ hk)
          · rename_i l
            refine WO.opts ho hw he fun q hq => ?_
            obtain ⟨fr', hp, hk⟩ := vPut_inv (allQ_inv h q hq)
            exact ⟨fr', hp, ih _ _ hk⟩
          · rename_i l
            refine WO.fams ho hw he fun q hq j hj => ?_
            obtain ⟨fr', hp, hk⟩ := vPut_inv (allQ_inv h q hq j hj)
            exact ⟨fr', hp, ih _ _ hk⟩
          · rename_i f args
            refine WO.call ho hw he ((vF_sound hS hmc hrc h).split.mono fun v H' ⟨fr', hp, hk⟩ => ⟨fr', hp, ih _ _ hk⟩)
          · rename_i l args
            refine WO.yield ho hw he ((vY_sound hrc h).mono fun b H' hq => ?_)
            obtain ⟨fr', hp, hk⟩ := vPut_inv hq
            exact ⟨fr', hp, ih _ _ hk⟩

theorem vPl_sound (hS : SumPOk P B S) (hmc : DSound P B mc) (hrc : VSound P B rc) {an : List Nat} (hA : Anc ops fun i => an.getD i 0) : ∀ (pl : Pl) (lA : Nat) (fr : Fr) (H : Heap) (k : KO), Down ops lA → vPl P S mc rc n ops pl fr H k →
    (∀ hs, pl.grp = true → okPlan P ops an hs lA pl = true → ∀ i ∈ pl.heads, ∃ o, ops[i]? = some o ∧ lA.testBit i = false ∧ WI P B K r n ops (fun i => an.getD i 0) lA i o fr H k) ∧
    (okPlan P ops an pl.heads lA pl = true → WD P B K r n ops (fun i => an.getD i 0) lA fr H k)
  | .done, lA, fr, H, k, hd, h => by
    refine ⟨fun hs hg => (by cases hg), fun hok => ?_⟩
    simp only [okPlan, List.all_eq_true, List.mem_range] at hok
    exact WD.done hA (fun k hk => hok k hk) h
  | .ro i rest, lA, fr, H, k, hd, h => by
    refine ⟨fun hs hg => (by cases hg), fun hok => ?_⟩
    simp only [okPlan, Bool.and_eq_true, Bool.not_eq_true'] at hok
    obtain ⟨⟨⟨⟨k1, k2⟩, k3⟩, k4⟩, k5⟩ := hok
    unfold vPl at h
    split at h
    · exact nomatch h
    · rename_i o ho
      rw [ho] at k4
      have hin : ∀ e ∈ o.after, Region.binds .any e = true → lA.testBit e.on = true := fun e he hb => subM_bit k2 (hA.back i o ho e he hb).2
      split at h
      · exact nomatch h
      · rename_i p v hv
        obtain ⟨hp, h⟩ := withOb_inv h
        obtain ⟨v', fr', hun, hpt, hk⟩ := vPutS_inv h
        exact WD.ro hA ho hd k1 k4 (dstOk_ok k3) (roX_ok hv hp) hun hpt ((vPl_sound hS hmc hrc hA rest _ _ _ _ (hd.add ho hin) hk).2 k5)
  | .loud i js rest, lA, fr, H, k, hd, h => by
    have main : ∀ hs, okPlan P ops an hs lA (.loud i js rest) = true → ∃ o, ops[i]? = some o ∧ lA.testBit i = false ∧ WI P B K r n ops (fun i => an.getD i 0) lA i o fr H k := by
      intro hs hok
      simp only [okPlan, Bool.and_eq_true, Bool.not_eq_true', List.all_eq_true, List.mem_range] at hok
      obtain ⟨⟨⟨⟨⟨k1, k2⟩, k3⟩, k4⟩, k5⟩, k6⟩ := hok
      unfold vPl at h
      split at h
      · exact nomatch h
      · rename_i o ho
        have hin : ∀ e ∈ o.after, Region.binds .any e = true → lA.testBit e.on = true := fun e he hb => subM_bit k2 (hA.back i o ho e he hb).2
        have hd' := hd.add ho hin
        refine ⟨o, ho, k1, ?_⟩
        have cont : ∀ {fr' : Fr} {H' : Heap}, vChk P ops fr' H' js (vPl P S mc rc n ops rest fr' H' k) →
            Again P n ops (fun i => an.getD i 0) lA i fr' H' ∧ WD P B K r n ops (fun i => an.getD i 0) (lA ||| 2 ^ i) fr' H' k := by
          intro fr' H' hh
          obtain ⟨h1, h2⟩ := vChk_inv hh
          refine ⟨?_, (vPl_sound hS hmc hrc hA rest _ _ _ _ hd' h2).2 k6⟩
          intro j oj hj hjA hjan hro
          have := k5 j (Array.getElem?_eq_some_iff.1 hj).1
          simp only [Bool.or_eq_true, Bool.not_eq_true'] at this
          rw [hj] at this
          have hjs : j ∈ js := by
            rcases this with ((h | h) | h) | h
            · unfold inM at h; rw [hjA] at h; cases h
            · unfold inM at h; rw [hjan] at h; cases h
            · simp [hro] at h
            · rw [List.any_eq_true] at h
              obtain ⟨x, hx, hx2⟩ := h
              rw [nbeq hx2]; exact hx
          exact h1 j hjs oj hj
        unfold vOp at h
        split at h
        · exact nomatch h
        · rename_i hw
          obtain ⟨fr', hp, hk⟩ := vPut_inv h
          exact WI.skipped ho hw hp (cont hk).1 (cont hk).2
        · rename_i hw
          split at h
          · exact nomatch h
          · rename_i ob q he
            obtain ⟨hob, h⟩ := withOb_inv h
            have he := aop_of he hob
            split at h
            · rename_i v H'
              obtain ⟨v', fr', hun, hp, hk⟩ := vPutS_inv h
              exact WI.val ho hw he hun hp (cont hk).1 (cont hk).2
            · rename_i l
              refine WI.opts ho hw he fun q hq => ?_
              obtain ⟨fr', hp, hk⟩ := vPut_inv (allQ_inv h q hq)
              exact ⟨fr', hp, (cont hk).1, (cont hk).2⟩
            · rename_i l
              refine WI.fams ho hw he fun q hq j hj => ?_
              obtain ⟨fr', hp, hk⟩ := vPut_inv (allQ_inv h q hq j hj)
              exact ⟨fr', hp, (cont hk).1, (cont hk).2⟩
            · rename_i f args
              exact WI.call ho hw he ((vF_sound hS hmc hrc h).split.mono fun v H' ⟨fr', hp, hk⟩ => ⟨fr', hp, (cont hk).1, (cont hk).2⟩)
            · rename_i l args
              refine WI.yield ho hw he ((vY_sound hrc h).mono fun b H' hq => ?_)
              obtain ⟨fr', hp, hk⟩ := vPut_inv hq
              exact ⟨fr', hp, (cont hk).1, (cont hk).2⟩
    refine ⟨fun hs _ hok j hj => ?_, fun hok => ?_⟩
    · rw [Pl.heads, List.mem_singleton] at hj; subst hj; exact main hs hok
    · refine WD.louds hA (okPlan_alone hA hd rfl hok) (List.mem_singleton.2 rfl) fun j hj => ?_
      rw [Pl.heads, List.mem_singleton] at hj; subst hj; exact main _ hok
  | .both a b, lA, fr, H, k, hd, h => by
    have main : ∀ hs, okPlan P ops an hs lA (.both a b) = true → ∀ i ∈ (Pl.both a b).heads, ∃ o, ops[i]? = some o ∧ lA.testBit i = false ∧ WI P B K r n ops (fun i => an.getD i 0) lA i o fr H k := by
      intro hs hok i hi
      unfold vPl at h
      simp only [okPlan, Bool.and_eq_true] at hok
      rw [Pl.heads, List.mem_append] at hi
      rcases hi with hi | hi
      · exact (vPl_sound hS hmc hrc hA a _ _ _ _ hd h.1).1 hs hok.1.1.1 hok.1.2 i hi
      · exact (vPl_sound hS hmc hrc hA b _ _ _ _ hd h.2).1 hs hok.1.1.2 hok.2 i hi
    refine ⟨fun hs _ hok => main hs hok, fun hok => ?_⟩
    have hg : (Pl.both a b).grp = true := by
      simp only [okPlan, Bool.and_eq_true] at hok
      simp only [Pl.grp, Bool.and_eq_true]; exact hok.1.1
    obtain ⟨i0, hi0⟩ := grp_heads hg
    exact WD.louds hA (okPlan_alone hA hd hg hok) hi0 (main _ hok)

theorem vR_sound (hS : SumPOk P B S) (hmc : DSound P B mc) (hrc : VSound P B rc) {f0 : FuncId} {g : Operand} {ps : Array Tmp} {as bd : Code} {Q : Post} (h : vR P S mc rc f0 K n g ps as bd fr H Q) :
    WC P B K none n (.rangeFunc g ps as bd) fr H Q := by
  unfold vR at h
  split at h
  · exact nomatch h
  · rename_i gv hg
    split at h
    · rename_i f args hc
      refine WC.rangeFunc' hg hc f0 ((vF_sound hS hmc hrc h).mono fun v H2 hm => ?_)
      split at hm
      · rename_i st pd fn fr0 nt ps' as' bd' hi
        refine ⟨st, pd, fn, fr0, nt, ps', as', bd', hi, ?_⟩
        cases hst : (st == LoopState.busy) with
        | true => rw [hst] at hm; exact nomatch hm
        | false =>
          rw [hst] at hm
          refine ⟨rfl, ?_⟩
          simp only [cond_false] at hm
          cases pd with
          | none => exact hm
          | some c => exact hrc.c _ _ _ _ _ _ _ _ hm none fun _ => rfl
      · exact nomatch hm
    · exact nomatch h

theorem vThen_sound (hrc : VSound P B rc) {f : FuncId} {inR : Bool} {c : Code} {Q : Post} (hr : inR = false → r = none) :
    (∀ fr' H', vThen rc f inR K n c Q .nor fr' H' → WL P B K r n c fr' H' Q) ∧ ∀ x fr' H', x ≠ XT.nor → vThen rc f inR K n c Q x fr' H' → Q x fr' H' := by
  refine ⟨fun fr' H' hm => by
    simp only [vThen, forceS_eq] at hm
    exact hrc.l _ _ _ _ _ _ _ _ hm r hr, fun x fr' H' hx hm => ?_⟩
  cases x with
  | nor => exact (hx rfl).elim
  | ex id => exact hm
  | ret => exact hm

theorem vLoop_sound (hrc : VSound P B rc) {li : LInv} {f : FuncId} {inR : Bool} {c : Code} {Q : Post} (h : vLoop rc li f inR K n c fr H Q) {r : Option Nat} (hr : inR = false → r = none) :
    WC P B K r n (.loop c) fr H Q ∧ WL P B K r n c fr H Q := by
  obtain ⟨s0, h0, ha, hs⟩ := h
  have body : ∀ s, li.inv s → WC P B K r n c (frOf (li.st s fr H).1) (li.st s fr H).2 fun x fr' H' => match x with
      | .nor => ∃ s', li.inv s' ∧ li.mu s' < li.mu s ∧ Abs K fr' H' (frOf (li.st s' fr H).1) (li.st s' fr H).2
      | x => Q x fr' H' := by
    intro s hinv
    refine WC.rng (ps := rngT rngV (frOf (li.st s fr H).1) ++ rngT rngO (li.st s fr H).2.t) (fun ρ w tmps g1 g2 => ?_) fun hps => ?_
    · refine allP_app (rngT_sound fun i v hv => ?_) (rngT_sound fun i o ho => ?_)
      · obtain ⟨x, _, hx⟩ := g2 i v hv; exact rngV_sound hx
      · obtain ⟨e, _, hO⟩ := g1.obj i o ho; exact rngO_sound hO
    · refine (hrc.c _ _ _ _ _ _ _ _ (impP_inv (hs s hinv) hps) r hr).mono fun x fr' H' hm => ?_
      cases x with
      | nor =>
        obtain ⟨s', k1, k2, k3⟩ := hm
        exact ⟨s', k1, k2, vMs_sound k3⟩
      | ex id => exact hm
      | ret => exact hm
  exact ⟨WC.loopInv li.inv (fun s => frOf (li.st s fr H).1) (fun s => (li.st s fr H).2) li.mu s0 h0 (vMs_sound ha) body,
    WL.abs (vMs_sound ha) (WL.inv li.inv (fun s => frOf (li.st s fr H).1) (fun s => (li.st s fr H).2) li.mu body _ s0 rfl h0)⟩

theorem vCut_sound (hrc : VSound P B rc) {li : LInv} {f : FuncId} {inR : Bool} {x y : Code} {Q : Post} (h : vCut rc li f inR K n x y fr H Q) {r : Option Nat} (hr : inR = false → r = none) : WC P B K r n (.seq x y) fr H Q := by
  obtain ⟨h1, h2⟩ := h
  refine WC.seq (hrc.c _ _ _ _ _ _ _ _ h1 r hr) (fun fr' H' hm => ?_) (fun z fr' H' hz hm => ?_)
  · obtain ⟨s, hs, hm⟩ := hm
    refine WC.abs (vMs_sound hm) (WC.rng (ps := rngT rngV (frOf (li.st s fr H).1) ++ rngT rngO (li.st s fr H).2.t) (fun ρ w tmps g1 g2 => ?_) fun hps => hrc.c _ _ _ _ _ _ _ _ (impP_inv (h2 s hs) hps) r hr)
    refine allP_app (rngT_sound fun i v hv => ?_) (rngT_sound fun i o ho => ?_)
    · obtain ⟨x, _, hx⟩ := g2 i v hv; exact rngV_sound hx
    · obtain ⟨e, _, hO⟩ := g1.obj i o ho; exact rngO_sound hO
  · cases z with
    | nor => exact (hz rfl).elim
    | ex id => exact hm
    | ret => exact hm

theorem vTry_sound (hmc : DSound P B mc) {f : FuncId} {c : Code} {Q : Post} {q : Prop} (h : vTry L mc f K n c fr H Q q) (hq : q → WC P B K r n c fr H Q) : WC P B K r n c fr H Q := by
  unfold vTry at h
  split at h
  · exact hq h
  · split at h
    · exact hq h
    · rename_i R hR
      obtain ⟨ho, h⟩ := withOb_inv h
      exact ROk.outs (hmc _ _ _ _ _ _ hR r) ho h

theorem vStep_sound (hm : P.follows .mixedOrders = true) (hS : SumPOk P B S) (hmc : DSound P B mc) (hrc : VSound P B rc) : VSound P B (vStep P S L mc rc) where
  c f inR K n c fr H Q h r hr := by
    unfold vStep at h
    simp only at h
    split at h
    · exact WC.skip h
    · exact WC.label h
    · exact WC.exit h
    · exact WC.ret h
    · rename_i x y
      split at h
      · exact vCut_sound hrc h hr
      refine WC.seq (hrc.c _ _ _ _ _ _ _ _ h r hr) (fun fr' H' hm => by
        simp only [vSeq, forceS_eq] at hm
        exact hrc.c _ _ _ _ _ _ _ _ hm r hr) (fun x fr' H' hx hm => ?_)
      cases x with
      | nor => exact (hx rfl).elim
      | ex id => exact hm
      | ret => exact hm
    · split at h
      · rename_i t ht; exact WC.cond ht (hrc.c _ _ _ _ _ _ _ _ h r hr)
      · rename_i b hb; exact vTry_sound hmc h fun h => WC.condS' hb (fun e => hrc.c _ _ _ _ _ _ _ _ (h.1 e) r hr) (fun e => hrc.c _ _ _ _ _ _ _ _ (h.2 e) r hr)
      · exact nomatch h
    · rename_i id c
      refine WC.block ((hrc.c _ _ _ _ _ _ _ _ h r hr).mono fun x fr' H' hm => ?_)
      cases x with
      | nor => exact hm
      | ret => exact hm
      | ex id' =>
        simp only [vBlk] at hm
        simp only
        by_cases hi : id' = id
        · subst hi; rw [Nat.beq_refl] at hm; rw [if_pos rfl]; exact hm
        · have : Nat.beq id' id = false := by
            cases hb : Nat.beq id' id with
            | false => rfl
            | true => exact absurd (nbeq hb) hi
          rw [this] at hm; rw [if_neg hi]; exact hm
    · rename_i c
      split at h
      · rename_i li hli
        exact (vLoop_sound hrc h hr).1
      · obtain ⟨g1, g2⟩ := vThen_sound (P := P) (B := B) (K := K) (n := n) (f := f) (c := c) (Q := Q) hrc hr
        exact WC.loop (hrc.c _ _ _ _ _ _ _ _ h r hr) g1 g2
    · exact vTry_sound hmc h fun h => WC.region (vO_sound hS hmc hrc _ _ _ _ _ h)
    · rename_i id ops
      refine vTry_sound hmc h fun h => ?_
      split at h
      · exact nomatch h
      · rename_i pl hpl
        unfold plan at hpl
        simp only at hpl
        cases hb : (backOk 0 ops.toList && okPlan P ops (ancs ops) (mkPlan P ops (ancs ops) ops.size 0).heads 0 (mkPlan P ops (ancs ops) ops.size 0)) with
        | false => rw [hb] at hpl; cases hpl
        | true =>
          rw [hb] at hpl
          cases hpl
          rw [Bool.and_eq_true] at hb
          exact WC.drawn hm ((vPl_sound hS hmc hrc (anc_of hb.1) _ 0 _ _ _ (fun j o _ hj => by simp at hj) h).2 hb.2)
    · split at h
      · exact nomatch h
      · rw [hr rfl]; exact vR_sound hS hmc hrc h
    · exact WC.scope (hrc.c _ _ _ _ _ _ _ _ h r hr)
    · exact nomatch h
  l f inR K n c fr H Q h r hr := by
    unfold vStep at h
    simp only at h
    split at h
    · exact (vLoop_sound hrc h hr).2
    obtain ⟨g1, g2⟩ := vThen_sound (P := P) (B := B) (K := K) (n := n) (f := f) (c := c) (Q := Q) hrc hr
    exact WL.round (hrc.c _ _ _ _ _ _ _ _ h r hr) g1 g2

theorem vC_sound (hm : P.follows .mixedOrders = true) (hS : SumPOk P B S) : ∀ k, VSound P B (vC P S L k)
  | 0 => ⟨fun _ _ _ _ _ _ _ _ h => (nomatch h), fun _ _ _ _ _ _ _ _ h => (nomatch h)⟩
  | k + 1 => vStep_sound hm hS (dC_sound hm hS k) (vC_sound hm hS k)

/-- A function, from what is owed for it. -/
theorem WF.of_vc (hm : P.follows .mixedOrders = true) (hS : SumPOk P B S) {k : Nat} {f : FuncId} {args : List AV} {Q : KF} (h : vTop P S L k f args H Q) : WF P B f args H Q :=
  vBody_sound hS (vC_sound hm hS k) h

end
end Go.AM
