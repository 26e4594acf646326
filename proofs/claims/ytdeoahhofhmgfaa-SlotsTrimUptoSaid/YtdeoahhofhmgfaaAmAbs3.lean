/- THE ABSTRACT MACHINE, 22: what fits the pattern is of its kind: blocks and states. -/
import Derived.Test.YtdeoahhofhmgfaaAmAbs2
set_option linter.unusedSimpArgs false
set_option linter.unusedVariables false
namespace Go.AM
open Go.RowKit

/-- A state may be taken for another one. -/
def Abs (K : Nat) (fr : Fr) (H : Heap) (fr0 : Fr) (H0 : Heap) : Prop :=
  ∀ (B : Nat) (ρ : Env) (w : World) (tmps : Array Value), K ≤ ρ.ats.length → HR B ρ H w → FRel ρ fr tmps →
    ∃ ρ', HR B ρ' H0 w ∧ FRel ρ' fr0 tmps ∧ ExtK K B ρ w ρ' w

section
variable {ρ ρ' : Env} {r : Ren} {B : Nat} {H H0 : Heap} {w : World}

theorem mT_sound (g : Good ρ ρ' r) : ∀ {p v : T AV} {ps : List Prop}, mT r p v = some ps → AllP ps → ∀ (t : Nat) (u : AV), p.get t = some u → ∃ u' qs, v.get t = some u' ∧ mV r u u' = some qs ∧ AllP qs
  | .nil, _, ps, h, hp, t, u, hu => by cases hu
  | .node a x b, .node a' x' b', ps, h, hp, t, u, hu => by
    simp only [mT] at h
    obtain ⟨p1, q1, h1, h2, hp1, hq1⟩ := andP_inv h hp
    obtain ⟨p2, q2, h3, h4, hp2, hq2⟩ := andP_inv h2 hq1
    cases t with
    | zero =>
      simp only [T.get] at hu ⊢
      subst hu
      simp only at h1
      split at h1
      · exact ⟨_, p1, rfl, h1, hp1⟩
      · cases h1
    | succ t =>
      simp only [T.get] at hu ⊢
      cases hb : Nat.beq (t % 2) 0 with
      | true => rw [hb] at hu; exact mT_sound g h3 hp2 _ u hu
      | false => rw [hb] at hu; exact mT_sound g h4 hq2 _ u hu
  | .node a x b, .nil, ps, h, hp, t, u, hu => by
    simp only [mT] at h
    split at h
    · obtain ⟨p1, q1, h1, h2, hp1, hq1⟩ := andP_inv h hp
      cases t with
      | zero => simp only [T.get] at hu; cases hu
      | succ t =>
        simp only [T.get] at hu
        cases hb : Nat.beq (t % 2) 0 with
        | true => rw [hb] at hu; obtain ⟨_, _, hh, _⟩ := mT_sound g h1 hp1 _ u hu; cases hh
        | false => rw [hb] at hu; obtain ⟨_, _, hh, _⟩ := mT_sound g h2 hq1 _ u hu; cases hh
    · cases h

theorem mE_sound (g : Good ρ ρ' r) : ∀ {p v : List Ent} {ps : List Prop}, mE r p v = some ps → AllP ps → ∀ {xs : List MapEntry}, EntL ρ v xs → EntL ρ' p xs
  | [], [], _, _, _, _, hr => hr
  | [], _ :: _, _, h, _, _, _ => by simp [mE] at h
  | _ :: _, [], _, h, _, _, _ => by simp [mE] at h
  | a :: x, b :: y, ps, h, hp, xs, hr => by
    simp only [mE] at h
    obtain ⟨p1, q1, h1, h2, hp1, hq1⟩ := andP_inv h hp
    obtain ⟨p2, q2, h3, h4, hp2, hq2⟩ := andP_inv h1 hp1
    obtain ⟨p3, q3, h5, h6, hp3, hq3⟩ := andP_inv h4 hq2
    obtain ⟨z, zs, rfl, r1, r2, r3, r4⟩ := hr
    have hb := Nat.eq_of_beq_eq_true (chkB_inv h3)
    exact ⟨z, zs, rfl, mV_sound g h5 hp3 r1, mV_sound g h6 hq3 r2, r3.trans hb.symm, mE_sound g h2 hq1 r4⟩

theorem tyFits_ok {a b : Option TypeId} (h : tyFits a b = true) {t : TypeId} (ha : a = some t) : b = some t := by
  subst ha
  unfold tyFits at h
  split at h
  · cases ‹some t = none›
  · rename_i t1 t2 e; cases e; rw [Nat.eq_of_beq_eq_true h]
  · cases h

theorem natsEq_eq : ∀ {a b : List Nat}, natsEq a b = true → a = b
  | [], [], _ => rfl
  | [], _ :: _, h => by simp [natsEq] at h
  | _ :: _, [], h => by simp [natsEq] at h
  | a :: x, b :: y, h => by
    simp only [natsEq, Bool.and_eq_true] at h
    rw [Nat.eq_of_beq_eq_true h.1, natsEq_eq h.2]

theorem cellsOf_sound {a : Bool} {v : AV} {cs : List AV} (h : v.cellsOf a = some cs) {x : Value} (hr : Rel ρ v x) : ∃ ys, RelL ρ cs ys ∧ x = valOf a ys ∧ (a = false → cs.length = 1) := by
  unfold AV.cellsOf at h
  split at h
  · cases a with
    | false => cases h
    | true =>
      cases h
      simp only [Rel] at hr
      obtain ⟨ys, rfl, h2⟩ := hr
      exact ⟨ys.toList, h2, by simp [valOf], fun h => by cases h⟩
  · cases a with
    | true => cases h
    | false =>
      cases h
      exact ⟨[x], ⟨x, [], rfl, hr, rfl⟩, rfl, fun _ => rfl⟩

theorem row_sound {a : Bool} {v : AV} {cs : List AV} (h : v.cellsOf a = some cs) {t : RTy} {d : t.den} (hd : t.dec cs = some d) {x : Value} (hr : Rel ρ v x) : RowV ρ.fz a t d x := by
  obtain ⟨ys, h1, h2, h3⟩ := cellsOf_sound h hr
  refine ⟨ys, RTy.dec_sound t hd h1, h2, fun ha => ?_⟩
  rw [← RTy.dec_length t hd]; exact h3 ha

theorem decE_sound {ka va : Bool} {kr vr : RTy} : ∀ {es : List Ent} {m : List (kr.den × vr.den)}, decE ka va kr vr es = some m → ∀ {xs : List MapEntry}, EntL ρ es xs → m.length = xs.length ∧
    ∀ (i : Nat) (p : kr.den × vr.den) (x : MapEntry), m[i]? = some p → xs[i]? = some x → RowV ρ.fz ka kr p.1 x.key ∧ RowV ρ.fz va vr p.2 x.val
  | [], m, h, xs, hr => by
    cases h
    simp only [EntL] at hr; subst hr
    exact ⟨rfl, fun i p x hp => by simp at hp⟩
  | e :: es, m, h, xs, hr => by
    simp only [decE, Option.bind_eq_some_iff, Option.map_eq_some_iff] at h
    obtain ⟨kc, h1, k, h2, vc, h3, v, h4, m', h5, rfl⟩ := h
    obtain ⟨y, ys, rfl, r1, r2, r3, r4⟩ := hr
    obtain ⟨g1, g2⟩ := decE_sound h5 r4
    refine ⟨by simp [g1], fun i p x hp hx => ?_⟩
    cases i with
    | zero =>
      simp only [List.getElem?_cons_zero, Option.some.injEq] at hp hx
      subst hp; subst hx
      exact ⟨row_sound h1 h2 r1, row_sound h3 h4 r2⟩
    | succ i =>
      simp only [List.getElem?_cons_succ] at hp hx
      exact g2 i p x hp hx

theorem EntL.borns : ∀ {es : List Ent} {xs : List MapEntry}, EntL ρ es xs → es.map (·.born) = xs.map (·.born)
  | [], xs, h => by simp only [EntL] at h; subst h; rfl
  | e :: es, xs, h => by
    obtain ⟨y, ys, rfl, _, _, h3, h4⟩ := h
    simp only [List.map_cons, h3, EntL.borns h4]

theorem natMem_iff {n : Nat} : ∀ {l : List Nat}, natMem n l = true ↔ n ∈ l
  | [] => by simp [natMem]
  | m :: l => by
    simp only [natMem, Bool.or_eq_true, natMem_iff (l := l), List.mem_cons]
    exact ⟨fun h => h.imp Nat.eq_of_beq_eq_true id, fun h => h.imp (fun e => by subst e; exact Nat.beq_refl _) id⟩

theorem bornsOk_sound : ∀ {es : List Ent} {seen : List Nat} {clock : Nat}, bornsOk es seen clock = true → ∀ {xs : List MapEntry}, EntL ρ es xs → (xs.map (·.born)).Nodup ∧ (∀ x ∈ xs, x.born < clock) ∧ ∀ x ∈ xs, x.born ∉ seen
  | [], seen, clock, h, xs, hr => by simp only [EntL] at hr; subst hr; simp
  | e :: es, seen, clock, h, xs, hr => by
    simp only [bornsOk, Bool.and_eq_true, Bool.not_eq_true'] at h
    obtain ⟨y, ys, rfl, r1, r2, r3, r4⟩ := hr
    obtain ⟨g1, g2, g3⟩ := bornsOk_sound h.2 r4
    have hb : y.born < clock := by rw [r3]; simpa [Nat.blt_eq] using h.1.1
    have hs : y.born ∉ seen := fun hm => by rw [r3] at hm; rw [natMem_iff.2 hm] at h; cases h.1.2
    refine ⟨?_, fun x hx => ?_, fun x hx => ?_⟩
    · rw [List.map_cons, List.nodup_cons]
      refine ⟨fun hm => ?_, g1⟩
      obtain ⟨x, hx, hxe⟩ := List.mem_map.1 hm
      exact g3 x hx (by rw [hxe, r3]; exact List.mem_cons_self ..)
    · rcases List.mem_cons.1 hx with rfl | hx
      · exact hb
      · exact g2 x hx
    · rcases List.mem_cons.1 hx with rfl | hx
      · exact hs
      · exact fun hm => g3 x hx (List.mem_cons_of_mem _ hm)

theorem castMap_rfl {kr vr : RTy} (h : kr = kr) (h2 : vr = vr) (m : List (kr.den × vr.den)) : castMap h h2 m = m := rfl

/-- A block that fits. -/
theorem mO_sound (hr : HR B ρ H w) (g : Good ρ ρ' r) {o : AObj} {s : Src} {ps : List Prop} (h : mO r o s (s.id?.bind H.get) = some ps) (hp : AllP ps) :
    ∃ e, s.atE ρ = some e ∧ ORel ρ' B w e o ∧ (e.nb = false → ∃ j o' e', s.id? = some j ∧ H.get j = some o' ∧ ρ.ats[j]? = some e' ∧ e'.b = e.b ∧ e'.nb = false) := by
  unfold mO at h
  split at h
  · -- nothing
    rename_i _ t rows ty es
    cases hb : (Nat.beq es t.size && tyFits ty none) with
    | false => rw [hb] at h; cases h
    | true =>
      rw [hb] at h
      simp only [Bool.and_eq_true] at hb
      have := allP_one hp h
      refine ⟨_, rfl, ⟨Nat.eq_of_beq_eq_true hb.1, by rw [← this]; rfl, .inl ⟨rfl, this.symm⟩⟩, fun hn => by cases hn⟩
  · rename_i ro es cs ty j ro' es' cs' ty' he
    simp only [Src.id?, Option.bind_some] at he
    obtain ⟨p1, q1, h1, h2, hp1, hq1⟩ := andP_inv h hp
    have hc := chkB_inv h1
    simp only [Bool.and_eq_true, beq_iff_eq] at hc
    obtain ⟨⟨rfl, h3⟩, h4⟩ := hc
    have := Nat.eq_of_beq_eq_true h3; subst this
    obtain ⟨e, hej, hO⟩ := hr.obj j _ he
    obtain ⟨hnb, k1, arr, ty0, fz, k2, k3, k4, k5, k6, k7⟩ := hO
    refine ⟨e, hej, ⟨hnb, k1, arr, ty0, fz, k2, k3, fun i v hv => ?_, k5, k6, fun t ht => k7 t (tyFits_ok h4 ht)⟩, fun _ => ⟨j, _, e, rfl, he, hej, rfl, hnb⟩⟩
    have hrl : RelL ρ cs' ((List.range cs'.length).map fun i => (arr[e.sh + i]?).getD default) := by
      refine RelL.mk (by simp) fun i v hv => ?_
      obtain ⟨x, hx, hrx⟩ := k4 i v hv
      exact ⟨x, by simp [(List.getElem?_eq_some_iff.1 hv).1, hx], hrx⟩
    have hrl2 := mVL_sound g h2 hq1 hrl
    obtain ⟨x, hx, hrx⟩ := hrl2.get hv
    have hlt : i < cs'.length := by have := (List.getElem?_eq_some_iff.1 hx).1; simpa using this
    obtain ⟨y, hy, _⟩ := k4 i _ (List.getElem?_eq_getElem hlt)
    simp [hlt, hy] at hx
    exact ⟨y, hy, hx ▸ hrx⟩
  · rename_i es clock j es' clock' he
    simp only [Src.id?, Option.bind_some] at he
    obtain ⟨p1, q1, h1, h2, hp1, hq1⟩ := andP_inv h hp
    have := Nat.eq_of_beq_eq_true (chkB_inv h1); subst this
    obtain ⟨e, hej, hO⟩ := hr.obj j _ he
    obtain ⟨hnb, k1, arr, k2, k3⟩ := hO
    exact ⟨e, hej, ⟨hnb, k1, arr, k2, mE_sound g h2 hq1 k3⟩, fun _ => ⟨j, _, e, rfl, he, hej, rfl, hnb⟩⟩
  · rename_i st pd f0 fr n psm as bd j st' pd' f0' fr' n' ps' as' bd' he
    simp only [Src.id?, Option.bind_some] at he
    split at h
    · obtain ⟨p1, q1, h1, h2, hp1, hq1⟩ := andP_inv h hp
      obtain ⟨p2, q2, h3, h4, hp2, hq2⟩ := andP_inv h2 hq1
      cases h4
      obtain ⟨rfl, rfl, _⟩ := hq2
      have hc := chkB_inv h1
      simp only [Bool.and_eq_true] at hc
      obtain ⟨⟨c1, c2⟩, c3⟩ := hc
      have e1 : st = st' := by cases st <;> cases st' <;> first | rfl | (cases c1)
      have e2 := Nat.eq_of_beq_eq_true c2
      have e3 := natsEq_eq c3
      subst e1; subst e2; subst e3
      obtain ⟨e, hej, hO⟩ := hr.obj j _ he
      obtain ⟨hnb, k1, tmps, d, fn, k2, k3, k4⟩ := hO
      refine ⟨e, hej, ⟨hnb, k1, tmps, d, fn, k2, fun t u hu => ?_, k4⟩, fun _ => ⟨j, _, e, rfl, he, hej, rfl, hnb⟩⟩
      obtain ⟨u', qs, m1, m2, m3⟩ := mT_sound g h3 hp2 t u hu
      obtain ⟨x, hx, hrx⟩ := k3 t u' m1
      exact ⟨x, hx, mV_sound g m2 m3 hrx⟩
    · cases h
  · rename_i s pos j s' pos' he
    simp only [Src.id?, Option.bind_some] at he
    have hc := chkB_inv h
    simp only [Bool.and_eq_true] at hc
    have e1 := eqB_sound hc.1
    have e2 := Nat.eq_of_beq_eq_true hc.2
    subst e1; subst e2
    obtain ⟨e, hej, hO⟩ := hr.obj j _ he
    exact ⟨e, hej, hO, fun _ => ⟨j, _, e, rfl, he, hej, rfl, hO.1⟩⟩
  · rename_i m since seen stepped j m' since' seen' stepped' he
    simp only [Src.id?, Option.bind_some] at he
    have hc := chkB_inv h
    simp only [Bool.and_eq_true] at hc
    obtain ⟨⟨⟨c1, c2⟩, c3⟩, c4⟩ := hc
    have e2 := Nat.eq_of_beq_eq_true c2
    have e3 := natsEq_eq c3
    have e4 := Nat.eq_of_beq_eq_true c4
    subst e2; subst e3; subst e4
    obtain ⟨e, hej, hO⟩ := hr.obj j _ he
    obtain ⟨h0, h1, h2, em, h3, h4⟩ := hO
    exact ⟨e, hej, ⟨h0, h1, h2, em, g.same c1 h3, h4⟩, fun _ => ⟨j, _, e, rfl, he, hej, rfl, h0⟩⟩
  · rename_i t rows ty j t' rows' ty' he
    simp only [Src.id?, Option.bind_some] at he
    cases hb : tyFits ty ty' with
    | false => rw [hb] at h; cases h
    | true =>
      rw [hb, cond_true] at h
      split at h
      · rename_i hs
        have e := RTy.same_eq hs
        subst e
        have := allP_one hp h
        rw [castRows_rfl] at this
        subst this
        obtain ⟨e, hej, hO⟩ := hr.obj j _ he
        obtain ⟨k1, k2, k3⟩ := hO
        refine ⟨e, hej, ⟨k1, k2, ?_⟩, fun hn => ⟨j, _, e, rfl, he, hej, rfl, hn⟩⟩
        rcases k3 with k3 | ⟨k3, arr, ty0, fz, k4, k5, k7, k8, k9, k10⟩
        · exact .inl k3
        · exact .inr ⟨k3, arr, ty0, fz, k4, k5, k7.mono g.fz, k8, k9, fun t ht => k10 t (tyFits_ok hb ht)⟩
      · cases h
  · rename_i t rows ty j off es len cap ex es' cs oty he
    simp only [Src.id?, Option.bind_some] at he
    cases hb : (Nat.beq es t.size && tyFits ty none && Nat.ble len maxI && Nat.ble len cap && Nat.ble (off + len * es) cs.length && (bif ex then Nat.ble (off + cap * es) cs.length && Nat.blt 0 cap else Nat.beq es' es)) with
    | false => rw [hb] at h; cases h
    | true =>
      rw [hb, cond_true] at h
      simp only [Bool.and_eq_true] at hb
      obtain ⟨⟨⟨⟨⟨b1, b2⟩, b3⟩, b4⟩, b5⟩, b6⟩ := hb
      have b1 := Nat.eq_of_beq_eq_true b1
      have b5 := Nat.le_of_ble_eq_true b5
      split at h
      · rename_i rows' hd
        have := allP_one hp h
        subst this
        obtain ⟨d1, d2, d3⟩ := RTy.decs_sound len hd
        obtain ⟨e, hej, hO⟩ := hr.obj j _ he
        obtain ⟨hnb, k1, arr, ty0, fz, k2, k3, k4, k5, k6, k7⟩ := hO
        have hrl : RelL ρ ((cs.drop off).take (len * es)) ((List.range (len * es)).map fun i => (arr[e.sh + off + i]?).getD default) := by
          refine RelL.mk (by simp; omega) fun i v hv => ?_
          have hi : i < len * es := by have := (List.getElem?_eq_some_iff.1 hv).1; simp at this; omega
          rw [List.getElem?_take_of_lt hi, List.getElem?_drop] at hv
          obtain ⟨x, hx, hrx⟩ := k4 _ v hv
          exact ⟨x, by rw [← Nat.add_assoc] at hx; simp [hi, hx], hrx⟩
        have hcl : len * es = 0 ∨ e.sh + off + len * es ≤ e.n := by
          by_cases hz : len * es = 0
          · exact .inl hz
          · refine .inr ?_
            obtain ⟨x, hx, _⟩ := k4 (off + (len * es - 1)) _ (List.getElem?_eq_getElem (by omega))
            have := (Array.getElem?_eq_some_iff.1 hx).1
            omega
        have hty : ∀ t, ty = some t → False := fun t ht => by have := tyFits_ok b2 ht; cases this
        refine ⟨{ b := e.b, sh := e.sh + off, n := e.n, es := es, len := len, nb := e.nb }, by simp only [Src.atE, hej, Option.map_some], ⟨b1, d1, .inr ⟨hnb, arr, ty0, fz, k2, k3, ?_, (k6 rfl).1, (k6 rfl).2, fun t ht => (hty t ht).elim⟩⟩, fun _ => ⟨j, _, e, rfl, he, hej, rfl, hnb⟩⟩
        · intro k row hk
          have hkl : k < len := by have := (List.getElem?_eq_some_iff.1 hk).1; omega
          have hrd := d3 hrl k row hk
          refine ⟨_, fun i y hy => ?_, hrd.mono g.fz⟩
          have hi : i < t.size := by have := (List.getElem?_eq_some_iff.1 hy).1; simp at this; omega
          have hmul : k * t.size + t.size ≤ len * t.size := by
            have : (k + 1) * t.size ≤ len * t.size := Nat.mul_le_mul_right _ hkl
            rw [Nat.add_mul] at this; omega
          rw [List.getElem?_take_of_lt hi, List.getElem?_drop] at hy
          have hlt : k * t.size + i < len * es := by rw [b1]; omega
          simp only [List.getElem?_map, List.getElem?_range hlt, Option.map_some, Option.some.injEq] at hy
          have hcs : off + (k * t.size + i) < cs.length := by omega
          obtain ⟨x, hx, _⟩ := k4 (off + (k * t.size + i)) _ (List.getElem?_eq_getElem hcs)
          rw [show e.sh + (off + (k * t.size + i)) = e.sh + off + (k * t.size + i) by omega] at hx
          rw [hx] at hy
          simp only [Option.getD_some] at hy
          show arr[e.sh + off + k * t.size + i]? = some y
          rw [Nat.add_assoc, hx, hy]
      · cases h
  · rename_i ka va kr vr m bs clk j ka' va' kr' vr' m' bs' clk' he
    simp only [Src.id?, Option.bind_some] at he
    cases hb : ((ka == ka') && (va == va')) with
    | false => rw [hb] at h; cases h
    | true =>
      rw [hb, cond_true] at h
      simp only [Bool.and_eq_true, beq_iff_eq] at hb
      obtain ⟨rfl, rfl⟩ := hb
      split at h
      · rename_i hs
        have e := RTy.same_eq hs
        subst e
        split at h
        · rename_i hs2
          have e := RTy.same_eq hs2
          subst e
          cases h
          obtain ⟨e1, e2, e3, _⟩ := hp
          rw [castMap_rfl] at e1
          subst e1; subst e2; subst e3
          obtain ⟨e, hej, hO⟩ := hr.obj j _ he
          obtain ⟨k1, k2, k3, arr, k4, k5, kb, k6⟩ := hO
          exact ⟨e, hej, ⟨k1, k2, k3, arr, k4, k5, kb, k6.mono g.fz⟩, fun hn => ⟨j, _, e, rfl, he, hej, rfl, hn⟩⟩
        · cases h
      · cases h
  · rename_i ka va kr vr m bs clk j es clock he
    simp only [Src.id?, Option.bind_some] at he
    cases hb : (bornsOk es [] clock && (ka || Nat.beq kr.size 1) && (va || Nat.beq vr.size 1)) with
    | false => rw [hb] at h; cases h
    | true =>
      rw [hb, cond_true] at h
      simp only [Bool.and_eq_true] at hb
      split at h
      · rename_i m' hm
        cases h
        obtain ⟨rfl, hbs, hck, hnd, _⟩ := hp
        obtain ⟨e, hej, hO⟩ := hr.obj j _ he
        obtain ⟨k1, k2, arr, k3, k4⟩ := hO
        obtain ⟨g1, g2⟩ := decE_sound hm k4
        obtain ⟨g3, g4, _⟩ := bornsOk_sound hb.1.1 k4
        subst hck
        exact ⟨e, hej, ⟨k1, k2, hnd, arr, k3, ⟨g3, g4⟩, by rw [← hbs]; exact EntL.borns k4, SMapL.mono g.fz ⟨g1, g2⟩⟩, fun hn => ⟨j, _, e, rfl, he, hej, rfl, hn⟩⟩
      · cases h
  · rename_i m since seen stepped j m' since' seen' stepped' he
    simp only [Src.id?, Option.bind_some] at he
    cases hb : isSame r m m' with
    | false => rw [hb] at h; cases h
    | true =>
      rw [hb, cond_true] at h
      cases h
      obtain ⟨rfl, rfl, rfl, _⟩ := hp
      obtain ⟨e, hej, hO⟩ := hr.obj j _ he
      obtain ⟨k1, k2, k3, em, k4, k5⟩ := hO
      exact ⟨e, hej, ⟨k1, k2, k3, em, g.same hb k4, k5⟩, fun _ => ⟨j, _, e, rfl, he, hej, rfl, k1⟩⟩
  · cases h
end
end Go.AM
