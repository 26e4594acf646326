/- THE ABSTRACT MACHINE, 23c: two whole states, one for each way of a choice, told as one. -/
import Derived.Test.YtdeoahhofhmgfaaAmMrg
set_option linter.unusedSimpArgs false
set_option linter.unusedVariables false
namespace Go.AM
open Go.RowKit
noncomputable section

/-- The names of the state that is told as one: where each lies in either state. -/
abbrev Mp := List (Src × Src)

def rnL (f : Src × Src → Src) : Nat → Mp → Ren
  | _, [] => []
  | i, p :: l => (i, f p) :: rnL f (i + 1) l

def rn1 (M : Mp) : Ren := rnL (·.1) 0 M
def rn2 (M : Mp) : Ren := rnL (·.2) 0 M

theorem lk_rnL {f : Src × Src → Src} : ∀ {M : Mp} {i0 i : Nat}, lk (rnL f i0 M) i = if i0 ≤ i then (M[i - i0]?).map f else none
  | [], i0, i => by simp [rnL, lk]
  | p :: M, i0, i => by
    simp only [rnL, lk]
    by_cases h : i0 = i
    · subst h; simp [Nat.beq_refl]
    · have hb : Nat.beq i0 i = false := by
        cases hb : Nat.beq i0 i with
        | false => rfl
        | true => exact absurd (Nat.eq_of_beq_eq_true hb) h
      rw [hb, cond_false, lk_rnL]
      by_cases h2 : i0 ≤ i
      · rw [if_pos (by omega), if_pos h2, show i - i0 = (i - (i0 + 1)) + 1 by omega]; simp
      · rw [if_neg (by omega), if_neg h2]

def nmGo (t : Src × Src → Bool) : Nat → Mp → Option Nat
  | _, [] => none
  | i, p :: l => bif t p then some i else nmGo t (i + 1) l

theorem nmGo_inv {t : Src × Src → Bool} : ∀ {M : Mp} {i n : Nat}, nmGo t i M = some n → i ≤ n ∧ ∃ p, M[n - i]? = some p ∧ t p = true
  | [], i, n, h => by cases h
  | p :: l, i, n, h => by
    unfold nmGo at h
    cases hb : t p with
    | true => rw [hb, cond_true] at h; cases h; exact ⟨Nat.le_refl _, p, by simp, hb⟩
    | false =>
      rw [hb, cond_false] at h
      obtain ⟨h1, q, h2, h3⟩ := nmGo_inv h
      exact ⟨by omega, q, by rw [show n - i = (n - (i + 1)) + 1 by omega]; simpa using h2, h3⟩

theorem nmGo_lk {t : Src × Src → Bool} {M : Mp} {n : Nat} (h : nmGo t 0 M = some n) : ∃ p, t p = true ∧ lk (rn1 M) n = some p.1 ∧ lk (rn2 M) n = some p.2 := by
  obtain ⟨_, p, h2, h3⟩ := nmGo_inv h
  rw [Nat.sub_zero] at h2
  exact ⟨p, h3, by rw [rn1, lk_rnL, if_pos (Nat.zero_le _), Nat.sub_zero, h2]; rfl, by rw [rn2, lk_rnL, if_pos (Nat.zero_le _), Nat.sub_zero, h2]; rfl⟩

def tSame (i j : Nat) : Src × Src → Bool
  | (.same a, .same b) => Nat.beq a i && Nat.beq b j
  | _ => false

def nm (M : Mp) (i j : Nat) : Option Nat := nmGo (tSame i j) 0 M

theorem nm_same {M : Mp} {i j n : Nat} (h : nm M i j = some n) : isSame (rn1 M) n i = true ∧ isSame (rn2 M) n j = true := by
  obtain ⟨p, h1, h2, h3⟩ := nmGo_lk h
  unfold tSame at h1
  split at h1
  · rename_i a b
    rw [Bool.and_eq_true] at h1
    unfold isSame
    rw [h2, h3]
    exact ⟨h1.1, h1.2⟩
  · cases h1

def fits : AV → Src → Bool
  | .sw i, .same j => Nat.beq j i
  | .slc i off len cap ex, .sub j off' _ len' cap' ex' => Nat.beq j i && Nat.beq off' off && Nat.beq len' len && Nat.beq cap' cap && (ex' == ex)
  | .nilSlc, .void _ => true
  | _, _ => false

def nmW (M : Mp) (u v : AV) : Option AV := (nmGo (fun p => fits u p.1 && fits v p.2) 0 M).map .sw

theorem fits_mV {r : Ren} {u : AV} {s : Src} {n : Nat} (h : fits u s = true) (hl : lk r n = some s) : ∃ ps, mV r (.sw n) u = some ps ∧ AllP ps := by
  unfold fits at h
  split at h
  · exact ⟨[], by simp only [mV, isSame, hl, h, chkB, cond_true], trivial⟩
  · simp only [Bool.and_eq_true, beq_iff_eq] at h
    obtain ⟨⟨⟨⟨h1, h2⟩, h3⟩, h4⟩, h5⟩ := h
    have e1 := Nat.eq_of_beq_eq_true h1; have e2 := Nat.eq_of_beq_eq_true h2; have e3 := Nat.eq_of_beq_eq_true h3; have e4 := Nat.eq_of_beq_eq_true h4
    subst e1 e2 e3 e4 h5
    exact ⟨[], by simp only [mV, hl, Nat.beq_refl, beq_self_eq_true, Bool.and_self, chkB, cond_true], trivial⟩
  · exact ⟨[], by simp only [mV, hl], trivial⟩
  · cases h

def leafA : AV → Bool
  | .bool _ => true
  | .int _ _ => true
  | .str _ => true
  | .nilPtr => true
  | .nilSlc => true
  | .emp => true
  | .nilMap => true
  | .nilFn => true
  | .nilIface => true
  | _ => false

def jS (b : Bool) (u v : AV) : Option AV := bif leafA u && AV.same u v then some u else match mrgB b u v with
  | some w => some w
  | none => match u.asX, v.asX with
    | some p, some q => bif decide (p.1 = q.1) then some (.sI p.1 (bif b then p.2 else q.2)) else none
    | _, _ => match u.asS, v.asS with
      | some s, some t => some (.sS (bif b then s else t))
      | _, _ => none

mutual
/-- One value, for two. -/
def jV (b : Bool) (M : Mp) : AV → AV → Option AV
  | .ptr i off, v => match v with
    | .ptr j off' => bif Nat.beq off off' then (nm M i j).map fun n => .ptr n off else none
    | _ => none
  | .map i, v => match v with
    | .map j => (nm M i j).map .map
    | _ => none
  | .yld i, v => match v with
    | .yld j => (nm M i j).map .yld
    | _ => none
  | .fn f a c, v => match f, v with
    | .func f, .fn (.func f') a' c' => bif Nat.beq f f' then match jVL b M a a' with
        | some x => match jVL b M c c' with
          | some y => some (.fn (.func f) x y)
          | none => none
        | none => none
      else none
    | _, _ => none
  | .iface t u, v => match v with
    | .iface t' u' => bif Nat.beq t t' then (jV b M u u').map (.iface t) else none
    | _ => none
  | .agg a, v => match v with
    | .agg a' => (jVL b M a a').map .agg
    | _ => none
  | .tup a, v => match v with
    | .tup a' => (jVL b M a a').map .tup
    | _ => none
  | .dsl r rows, v => match v with
    | .dsl r' rows' => if h : RTy.same r' r = true then some (.dsl r (bif b then rows else castRows (RTy.same_eq h) rows')) else none
    | .nilSlc => some (.dsl r (bif b then rows else []))
    | _ => none
  | .dptr r row j, v => match v with
    | .dptr r' row' j' => bif Nat.beq j j' then (if h : RTy.same r' r = true then some (.dptr r (bif b then row else castRow (RTy.same_eq h) row') j) else none) else none
    | _ => none
  | .eptr i k j, v => match v with
    | .eptr i' k' j' => bif Nat.beq j j' then (nm M i i').map fun n => .eptr n (bif b then k else k') j else none
    | _ => none
  | .ss i lo len, v => match v with
    | .ss i' lo' len' => (nm M i i').map fun n => .ss n (bif b then lo else lo') (bif b then len else len')
    | _ => none
  | .sw i, v => nmW M (.sw i) v
  | .slc i off len cap ex, v => match v with
    | .slc j off' len' cap' ex' => match (bif Nat.beq off off' && Nat.beq len len' && Nat.beq cap cap' && (ex == ex') then nm M i j else none) with
      | some n => some (.slc n off len cap ex)
      | none => nmW M (.slc i off len cap ex) (.slc j off' len' cap' ex')
    | v => nmW M (.slc i off len cap ex) v
  | .nilSlc, v => match v with
    | .nilSlc => some .nilSlc
    | .dsl r rows => some (.dsl r (bif b then [] else rows))
    | v => nmW M .nilSlc v
  | u, v => jS b u v
def jVL (b : Bool) (M : Mp) : List AV → List AV → Option (List AV)
  | [], [] => some []
  | u :: us, v :: vs => match jV b M u v with
    | some w => match jVL b M us vs with
      | some ws => some (w :: ws)
      | none => none
    | none => none
  | _, _ => none
end

mutual
theorem CTy.same_refl : ∀ (a : CTy), CTy.same a a = true
  | .int k => by simp [CTy.same]
  | .boo => rfl
  | .txt => rfl
  | .sl r => by simp only [CTy.same]; exact RTy.same_refl r
theorem RTy.same_refl : ∀ (a : RTy), RTy.same a a = true
  | .one c => by simp only [RTy.same]; exact CTy.same_refl c
  | .cons c r => by simp only [RTy.same, CTy.same_refl c, cond_true]; exact RTy.same_refl r
end

/-- It fits. -/
def Ft (o : Option (List Prop)) : Prop := ∃ ps, o = some ps ∧ AllP ps

theorem allPapp : ∀ {ps qs : List Prop}, AllP ps → AllP qs → AllP (ps ++ qs)
  | [], qs, _, h => h
  | p :: ps, qs, h, k => ⟨h.1, allPapp h.2 k⟩

theorem Ft.and {a b : Option (List Prop)} (h : Ft a) (k : Ft b) : Ft (andP a b) := by
  obtain ⟨p, rfl, hp⟩ := h
  obtain ⟨q, rfl, hq⟩ := k
  exact ⟨p ++ q, rfl, allPapp hp hq⟩

theorem Ft.nil : Ft (some []) := ⟨[], rfl, trivial⟩
theorem Ft.chk {b : Bool} (h : b = true) : Ft (chkB b) := by subst h; exact ⟨[], rfl, trivial⟩
theorem Ft.one {p : Prop} (h : p) : Ft (some [p]) := ⟨_, rfl, h, trivial⟩

theorem eqB_refl : ∀ (s : List UInt8), eqB s s = true
  | [] => rfl
  | a :: s => by simp only [eqB, Nat.beq_refl, cond_true]; exact eqB_refl s

theorem leaf_mV {r : Ren} {u : AV} (h : leafA u = true) : Ft (mV r u u) := by
  cases u <;> first
    | (cases h; done)
    | (simp only [mV]; exact Ft.nil)
    | (simp only [mV]; exact Ft.chk (by simp [eqB_refl]))

theorem mrgB_mV {b : Bool} {u v w : AV} (h : mrgB b u v = some w) {r r' : Ren} : (b = true → Ft (mV r w u)) ∧ (b = false → Ft (mV r' w v)) := by
  unfold mrgB at h
  split at h <;> first
    | (cases h; done)
    | (cases h; constructor <;> (rintro rfl; simp only [mV, AV.asB]; first | exact Ft.chk (by simp) | exact Ft.one (by simp)))

theorem asX_mV {r : Ren} {u : AV} {k : IntKind} {n : Int} (h : u.asX = some (k, n)) : Ft (mV r (.sI k n) u) := by
  simp only [mV, h, decide_true, cond_true]; exact Ft.one (by first | rfl | trivial)

theorem asS_mV {r : Ren} {u : AV} {s : List UInt8} (h : u.asS = some s) : Ft (mV r (.sS s) u) := by
  simp only [mV, h]; exact Ft.one (by first | rfl | trivial)

theorem jS_mV {b : Bool} {u v w : AV} (h : jS b u v = some w) {r r' : Ren} : (b = true → Ft (mV r w u)) ∧ (b = false → Ft (mV r' w v)) := by
  unfold jS at h
  cases hl : (leafA u && AV.same u v) with
  | true =>
    rw [hl, cond_true] at h
    cases h
    rw [Bool.and_eq_true] at hl
    have e := AV.same_eq hl.2
    subst e
    exact ⟨fun _ => leaf_mV hl.1, fun _ => leaf_mV hl.1⟩
  | false =>
    rw [hl, cond_false] at h
    split at h
    · rename_i w' hw; cases h; exact mrgB_mV hw
    · split at h
      · rename_i p q hp hq
        obtain ⟨k, n⟩ := p
        obtain ⟨k', n'⟩ := q
        cases hd : decide (k = k') with
        | false => simp only [hd, cond_false] at h; cases h
        | true =>
          simp only [hd, cond_true] at h
          cases h
          have e := of_decide_eq_true hd
          subst e
          constructor
          · rintro rfl; exact asX_mV hp
          · rintro rfl; exact asX_mV hq
      · split at h
        · rename_i s t hs ht
          cases h
          constructor
          · rintro rfl; exact asS_mV hs
          · rintro rfl; exact asS_mV ht
        · cases h

theorem nmW_mV {M : Mp} {u v w : AV} (h : nmW M u v = some w) : Ft (mV (rn1 M) w u) ∧ Ft (mV (rn2 M) w v) := by
  unfold nmW at h
  rw [Option.map_eq_some_iff] at h
  obtain ⟨n, h, rfl⟩ := h
  obtain ⟨p, h1, h2, h3⟩ := nmGo_lk h
  rw [Bool.and_eq_true] at h1
  exact ⟨fits_mV h1.1 h2, fits_mV h1.2 h3⟩

theorem castRows_bif {r : RTy} {h : r = r} {rows : List r.den} : castRows h rows = rows := rfl

mutual
theorem jV_mV {b : Bool} {M : Mp} : ∀ {u v w : AV}, jV b M u v = some w → (b = true → Ft (mV (rn1 M) w u)) ∧ (b = false → Ft (mV (rn2 M) w v)) := by
  intro u v w h
  cases u with
  | ptr i off =>
    simp only [jV] at h
    split at h
    · rename_i j off'
      cases hb : Nat.beq off off' with
      | false => rw [hb] at h; cases h
      | true =>
        rw [hb, cond_true, Option.map_eq_some_iff] at h
        obtain ⟨n, hn, rfl⟩ := h
        obtain ⟨h1, h2⟩ := nm_same hn
        refine ⟨fun _ => ?_, fun _ => ?_⟩ <;> simp only [mV]
        · exact Ft.chk (by simp [h1, Nat.beq_refl])
        · exact Ft.chk (by simp [h2, hb])
    · cases h
  | map i =>
    simp only [jV] at h
    split at h
    · rw [Option.map_eq_some_iff] at h
      obtain ⟨n, hn, rfl⟩ := h
      obtain ⟨h1, h2⟩ := nm_same hn
      refine ⟨fun _ => ?_, fun _ => ?_⟩ <;> simp only [mV]
      · exact Ft.chk h1
      · exact Ft.chk h2
    · cases h
  | yld i =>
    simp only [jV] at h
    split at h
    · rw [Option.map_eq_some_iff] at h
      obtain ⟨n, hn, rfl⟩ := h
      obtain ⟨h1, h2⟩ := nm_same hn
      refine ⟨fun _ => ?_, fun _ => ?_⟩ <;> simp only [mV]
      · exact Ft.chk h1
      · exact Ft.chk h2
    · cases h
  | fn f a c =>
    simp only [jV] at h
    split at h
    · rename_i f f' a' c'
      cases hb : Nat.beq f f' with
      | false => rw [hb] at h; cases h
      | true =>
        rw [hb, cond_true] at h
        split at h
        · rename_i x hx
          split at h
          · rename_i y hy
            cases h
            refine ⟨fun e => ?_, fun e => ?_⟩ <;> simp only [mV]
            · exact Ft.and (Ft.chk (Nat.beq_refl _)) (Ft.and ((jVL_mV hx).1 e) ((jVL_mV hy).1 e))
            · exact Ft.and (Ft.chk hb) (Ft.and ((jVL_mV hx).2 e) ((jVL_mV hy).2 e))
          · cases h
        · cases h
    · cases h
  | iface t u =>
    simp only [jV] at h
    split at h
    · rename_i t' u'
      cases hb : Nat.beq t t' with
      | false => rw [hb] at h; cases h
      | true =>
        rw [hb, cond_true, Option.map_eq_some_iff] at h
        obtain ⟨w', hw, rfl⟩ := h
        refine ⟨fun e => ?_, fun e => ?_⟩ <;> simp only [mV]
        · exact Ft.and (Ft.chk (Nat.beq_refl _)) ((jV_mV hw).1 e)
        · exact Ft.and (Ft.chk hb) ((jV_mV hw).2 e)
    · cases h
  | agg a =>
    simp only [jV] at h
    split at h
    · rw [Option.map_eq_some_iff] at h
      obtain ⟨w', hw, rfl⟩ := h
      refine ⟨fun e => ?_, fun e => ?_⟩ <;> simp only [mV]
      · exact (jVL_mV hw).1 e
      · exact (jVL_mV hw).2 e
    · cases h
  | tup a =>
    simp only [jV] at h
    split at h
    · rw [Option.map_eq_some_iff] at h
      obtain ⟨w', hw, rfl⟩ := h
      refine ⟨fun e => ?_, fun e => ?_⟩ <;> simp only [mV]
      · exact (jVL_mV hw).1 e
      · exact (jVL_mV hw).2 e
    · cases h
  | dsl r rows =>
    simp only [jV] at h
    split at h
    · split at h
      · rename_i r' rows' hs
        have e := RTy.same_eq hs
        subst e
        cases h
        refine ⟨?_, ?_⟩ <;> (rintro rfl; simp only [mV, hs, dite_true]; exact Ft.one (by first | rfl | trivial))
      · cases h
    · cases h
      refine ⟨?_, ?_⟩
      · rintro rfl; simp only [mV]
        rw [dif_pos (RTy.same_refl r)]; exact Ft.one (by first | rfl | trivial)
      · rintro rfl; simp only [mV]; exact Ft.one (by first | rfl | trivial)
    · cases h
  | dptr r row j =>
    simp only [jV] at h
    split at h
    · rename_i r' row' j'
      cases hb : Nat.beq j j' with
      | false => rw [hb] at h; cases h
      | true =>
        rw [hb, cond_true] at h
        split at h
        · rename_i hs
          have e := RTy.same_eq hs
          subst e
          cases h
          refine ⟨?_, ?_⟩
          · rintro rfl; simp only [mV, Nat.beq_refl, cond_true, hs, dite_true]; exact Ft.one (by first | rfl | trivial)
          · rintro rfl; simp only [mV, hb, cond_true, hs, dite_true]; exact Ft.one (by first | rfl | trivial)
        · cases h
    · cases h
  | eptr i k j =>
    simp only [jV] at h
    split at h
    · rename_i i' k' j'
      cases hb : Nat.beq j j' with
      | false => rw [hb] at h; cases h
      | true =>
        rw [hb, cond_true, Option.map_eq_some_iff] at h
        obtain ⟨n, hn, rfl⟩ := h
        obtain ⟨h1, h2⟩ := nm_same hn
        refine ⟨?_, ?_⟩ <;> (rintro rfl; simp only [mV])
        · rw [h1, Nat.beq_refl]; exact Ft.one (by first | rfl | trivial)
        · rw [h2, hb]; exact Ft.one (by first | rfl | trivial)
    · cases h
  | ss i lo len =>
    simp only [jV] at h
    split at h
    · rw [Option.map_eq_some_iff] at h
      obtain ⟨n, hn, rfl⟩ := h
      obtain ⟨h1, h2⟩ := nm_same hn
      refine ⟨?_, ?_⟩ <;> (rintro rfl; simp only [mV])
      · rw [h1]; exact ⟨_, rfl, rfl, rfl, trivial⟩
      · rw [h2]; exact ⟨_, rfl, rfl, rfl, trivial⟩
    · cases h
  | sw i =>
    simp only [jV] at h
    exact ⟨fun _ => (nmW_mV h).1, fun _ => (nmW_mV h).2⟩
  | slc i off len cap ex =>
    simp only [jV] at h
    split at h
    · rename_i j off' len' cap' ex'
      split at h
      · rename_i n hn
        cases h
        cases hb : (Nat.beq off off' && Nat.beq len len' && Nat.beq cap cap' && (ex == ex')) with
        | false => rw [hb] at hn; cases hn
        | true =>
          rw [hb, cond_true] at hn
          obtain ⟨h1, h2⟩ := nm_same hn
          simp only [Bool.and_eq_true] at hb
          refine ⟨fun _ => ?_, fun _ => ?_⟩ <;> simp only [mV]
          · exact Ft.chk (by simp [h1, Nat.beq_refl])
          · exact Ft.chk (by simp [h2, hb])
      · exact ⟨fun _ => (nmW_mV h).1, fun _ => (nmW_mV h).2⟩
    · exact ⟨fun _ => (nmW_mV h).1, fun _ => (nmW_mV h).2⟩
  | nilSlc =>
    simp only [jV] at h
    split at h
    · cases h
      exact ⟨fun _ => leaf_mV rfl, fun _ => leaf_mV rfl⟩
    · rename_i r rows
      cases h
      refine ⟨?_, ?_⟩
      · rintro rfl; simp only [mV]; exact Ft.one (by first | rfl | trivial)
      · rintro rfl; simp only [mV]
        rw [dif_pos (RTy.same_refl r)]; exact Ft.one (by first | rfl | trivial)
    · exact ⟨fun _ => (nmW_mV h).1, fun _ => (nmW_mV h).2⟩
  | bool _ | int _ _ | str _ | nilPtr | emp | nilMap | nilFn | nilIface | sI _ _ | sB _ | sS _ =>
    simp only [jV] at h
    exact jS_mV h
theorem jVL_mV {b : Bool} {M : Mp} : ∀ {u v w : List AV}, jVL b M u v = some w → (b = true → Ft (mVL (rn1 M) w u)) ∧ (b = false → Ft (mVL (rn2 M) w v)) := by
  intro u v w h
  cases u with
  | nil =>
    cases v with
    | nil => simp only [jVL, Option.some.injEq] at h; subst h; exact ⟨fun _ => Ft.nil, fun _ => Ft.nil⟩
    | cons _ _ => simp [jVL] at h
  | cons a x =>
    cases v with
    | nil => simp [jVL] at h
    | cons c y =>
      simp only [jVL] at h
      split at h
      · rename_i w1 h1
        split at h
        · rename_i w2 h2
          cases h
          refine ⟨fun e => ?_, fun e => ?_⟩ <;> simp only [mVL]
          · exact Ft.and ((jV_mV h1).1 e) ((jVL_mV h2).1 e)
          · exact Ft.and ((jV_mV h1).2 e) ((jVL_mV h2).2 e)
        · cases h
      · cases h
end

/-! ### Frames -/
def isUnd : AV → Bool
  | .tup [] => true
  | _ => false

mutual
/-- It names only what was there before. -/
def selfV (K : Nat) : AV → Bool
  | .ptr i _ => Nat.blt i K
  | .slc i _ _ _ _ => Nat.blt i K
  | .map i => Nat.blt i K
  | .yld i => Nat.blt i K
  | .eptr i _ _ => Nat.blt i K
  | .sw i => Nat.blt i K
  | .ss i _ _ => Nat.blt i K
  | .fn f fs cs => match f with
    | .func _ => selfL K fs && selfL K cs
    | _ => false
  | .iface _ v => selfV K v
  | .agg cs => selfL K cs
  | .tup cs => selfL K cs
  | _ => true
def selfL (K : Nat) : List AV → Bool
  | [] => true
  | v :: vs => selfV K v && selfL K vs
end

def Roots (K : Nat) (r : Ren) : Prop := ∀ i, i < K → isSame r i i = true

theorem blt_lt {a b : Nat} (h : Nat.blt a b = true) : a < b := by simpa [Nat.blt_eq] using h

mutual
theorem selfV_mV {K : Nat} {r : Ren} (hr : Roots K r) : ∀ {u : AV}, selfV K u = true → Ft (mV r u u) := by
  intro u h
  cases u <;> simp only [selfV, Bool.and_eq_true] at h <;> simp only [mV]
  case ptr i off => exact Ft.chk (by simp [hr _ (blt_lt h), Nat.beq_refl])
  case slc i off len cap ex => exact Ft.chk (by simp [hr _ (blt_lt h), Nat.beq_refl])
  case map i => exact Ft.chk (hr _ (blt_lt h))
  case yld i => exact Ft.chk (hr _ (blt_lt h))
  case sw i => exact Ft.chk (hr _ (blt_lt h))
  case ss i lo len => rw [hr _ (blt_lt h)]; exact ⟨_, rfl, by first | rfl | trivial, by first | rfl | trivial, trivial⟩
  case eptr i k j => rw [hr _ (blt_lt h), Nat.beq_refl]; exact Ft.one (by first | rfl | trivial)
  case fn f fs cs =>
    cases f <;> simp only [Bool.and_eq_true] at h <;> first
      | exact Ft.and (Ft.chk (Nat.beq_refl _)) (Ft.and (selfL_mV hr h.1) (selfL_mV hr h.2))
      | cases h
  case iface t v => exact Ft.and (Ft.chk (Nat.beq_refl _)) (selfV_mV hr h)
  case agg cs => exact selfL_mV hr h
  case tup cs => exact selfL_mV hr h
  case bool b => exact Ft.chk (by simp)
  case int k n => exact Ft.chk (by simp)
  case str s => exact Ft.chk (eqB_refl s)
  case sI k n => simp only [AV.asX, decide_true, cond_true]; exact Ft.one (by first | rfl | trivial)
  case sB b => simp only [AV.asB]; exact Ft.one (by first | rfl | trivial)
  case sS s => simp only [AV.asS]; exact Ft.one (by first | rfl | trivial)
  case dsl t rows => rw [dif_pos (RTy.same_refl t)]; exact Ft.one (by first | rfl | trivial)
  case dptr t row j => rw [Nat.beq_refl, cond_true, dif_pos (RTy.same_refl t)]; exact Ft.one (by first | rfl | trivial)
  all_goals exact Ft.nil
theorem selfL_mV {K : Nat} {r : Ren} (hr : Roots K r) : ∀ {u : List AV}, selfL K u = true → Ft (mVL r u u) := by
  intro u h
  cases u with
  | nil => simp only [mVL]; exact Ft.nil
  | cons v vs =>
    simp only [selfL, Bool.and_eq_true] at h
    simp only [mVL]
    exact Ft.and (selfV_mV hr h.1) (selfL_mV hr h.2)
end

def jF (b : Bool) (K m : Nat) (M : Mp) (f1 f2 : Fr) : List Nat → Option (List (Nat × AV))
  | [] => some []
  | t :: ts => match f1.get t with
    | none => jF b K m M f1 f2 ts
    | some u => match f2.get t with
      | none => jF b K m M f1 f2 ts
      | some v => match m.testBit t with
        | false => bif selfV K u then (jF b K m M f1 f2 ts).map ((t, u) :: ·) else none
        | true => match jV b M u v with
          | some w => (jF b K m M f1 f2 ts).map ((t, w) :: ·)
          | none => bif isUnd u || isUnd v then jF b K m M f1 f2 ts else none

theorem jF_mF {b : Bool} {K m : Nat} {M : Mp} {f1 f2 : Fr} (r1 : Roots K (rn1 M)) (r2 : Roots K (rn2 M)) (hF : ∀ t u v, m.testBit t = false → f1.get t = some u → f2.get t = some v → u = v) :
    ∀ {ts : List Nat} {l : List (Nat × AV)}, jF b K m M f1 f2 ts = some l → (b = true → Ft (mF (rn1 M) f1 l)) ∧ (b = false → Ft (mF (rn2 M) f2 l))
  | [], l, h => by
    simp only [jF, Option.some.injEq] at h; subst h
    exact ⟨fun _ => Ft.nil, fun _ => Ft.nil⟩
  | t :: ts, l, h => by
    unfold jF at h
    split at h
    · exact jF_mF r1 r2 hF h
    · rename_i u hu
      split at h
      · exact jF_mF r1 r2 hF h
      · rename_i v hv
        split at h
        · rename_i hm
          have e := hF t u v hm hu hv
          subst e
          cases hs : selfV K u with
          | false => rw [hs] at h; cases h
          | true =>
            rw [hs, cond_true, Option.map_eq_some_iff] at h
            obtain ⟨l', h, rfl⟩ := h
            refine ⟨fun e => ?_, fun e => ?_⟩ <;> simp only [mF]
            · rw [hu]; exact Ft.and (selfV_mV r1 hs) ((jF_mF r1 r2 hF h).1 e)
            · rw [hv]; exact Ft.and (selfV_mV r2 hs) ((jF_mF r1 r2 hF h).2 e)
        · split at h
          · rename_i w hw
            rw [Option.map_eq_some_iff] at h
            obtain ⟨l', h, rfl⟩ := h
            refine ⟨fun e => ?_, fun e => ?_⟩ <;> simp only [mF]
            · rw [hu]; exact Ft.and ((jV_mV hw).1 e) ((jF_mF r1 r2 hF h).1 e)
            · rw [hv]; exact Ft.and ((jV_mV hw).2 e) ((jF_mF r1 r2 hF h).2 e)
          · cases hb : (isUnd u || isUnd v) with
            | false => rw [hb] at h; cases h
            | true => rw [hb, cond_true] at h; exact jF_mF r1 r2 hF h

/-- What has no bit is as it was. -/
theorem jF_keep {b : Bool} {K m : Nat} {M : Mp} {f1 f2 : Fr} : ∀ {ts : List Nat} {l : List (Nat × AV)}, jF b K m M f1 f2 ts = some l → ∀ t w, (t, w) ∈ l → m.testBit t = false → f1.get t = some w
  | [], l, h, t, w, hm, _ => by
    simp only [jF, Option.some.injEq] at h; subst h; cases hm
  | t0 :: ts, l, h, t, w, hm, ht => by
    unfold jF at h
    split at h
    · exact jF_keep h t w hm ht
    · rename_i u hu
      split at h
      · exact jF_keep h t w hm ht
      · rename_i v hv
        split at h
        · cases hs : selfV K u with
          | false => rw [hs] at h; cases h
          | true =>
            rw [hs, cond_true, Option.map_eq_some_iff] at h
            obtain ⟨l', h, rfl⟩ := h
            rcases List.mem_cons.1 hm with hm | hm
            · cases hm; exact hu
            · exact jF_keep h t w hm ht
        · rename_i hb
          split at h
          · rw [Option.map_eq_some_iff] at h
            obtain ⟨l', h, rfl⟩ := h
            rcases List.mem_cons.1 hm with hm | hm
            · cases hm; rw [hb] at ht; cases ht
            · exact jF_keep h t w hm ht
          · cases hb : (isUnd u || isUnd v) with
            | false => rw [hb] at h; cases h
            | true => rw [hb, cond_true] at h; exact jF_keep h t w hm ht

/-! ### Blocks -/
def tyJ : Option TypeId → Option TypeId → Option TypeId
  | some a, some b => bif Nat.beq a b then some a else none
  | _, _ => none

theorem tyJ_fits {a b : Option TypeId} : tyFits (tyJ a b) a = true ∧ tyFits (tyJ a b) b = true := by
  unfold tyJ
  split
  · rename_i x y
    cases h : Nat.beq x y with
    | true => simp [tyFits, h, Nat.beq_refl]
    | false => simp [tyFits]
  · simp [tyFits]

def rowsVia (t : RTy) (s : Src) (o : Option AObj) : Option (List t.den) := match s, o with
  | .void es, _ => bif Nat.beq es t.size then some [] else none
  | .same _, some (.seq t' rows' _) => if h : RTy.same t' t = true then some (castRows (RTy.same_eq h) rows') else none
  | .sub _ off es len cap ex, some (.cells false es' cs _) =>
    bif Nat.beq es t.size && tyFits none none && Nat.ble len maxI && Nat.ble len cap && Nat.ble (off + len * es) cs.length && (bif ex then Nat.ble (off + cap * es) cs.length && Nat.blt 0 cap else Nat.beq es' es) then
      t.decs len ((cs.drop off).take (len * es))
    else none
  | _, _ => none

theorem rowsVia_mO {r : Ren} {t : RTy} {s : Src} {o : Option AObj} {rows : List t.den} (h : rowsVia t s o = some rows) : Ft (mO r (.seq t rows none) s o) := by
  unfold rowsVia at h
  split at h
  · rename_i es
    cases hb : Nat.beq es t.size with
    | false => rw [hb] at h; cases h
    | true =>
      rw [hb, cond_true] at h; cases h
      simp only [mO, hb, tyFits, Bool.and_self, cond_true]; exact Ft.one (by first | rfl | trivial)
  · split at h
    · rename_i j t' rows' ty hs
      have e := RTy.same_eq hs
      subst e
      cases h
      simp only [mO, tyFits, cond_true, hs, dite_true]; exact Ft.one (by first | rfl | trivial)
    · cases h
  · rename_i j off es len cap ex es' cs ty
    cases hb : (Nat.beq es t.size && tyFits none none && Nat.ble len maxI && Nat.ble len cap && Nat.ble (off + len * es) cs.length && (bif ex then Nat.ble (off + cap * es) cs.length && Nat.blt 0 cap else Nat.beq es' es)) with
    | false => rw [hb] at h; cases h
    | true =>
      rw [hb, cond_true] at h
      simp only [mO]
      rw [hb, cond_true, h]
      exact Ft.one (by first | rfl | trivial)
  · cases h

def jE (b : Bool) (M : Mp) : List Ent → List Ent → Option (List Ent)
  | [], [] => some []
  | a :: x, c :: y => bif Nat.beq a.born c.born then match jV b M a.key c.key with
      | some k => match jV b M a.val c.val with
        | some v => (jE b M x y).map ({ key := k, val := v, born := a.born } :: ·)
        | none => none
      | none => none
    else none
  | _, _ => none

theorem jE_mE {b : Bool} {M : Mp} : ∀ {u v w : List Ent}, jE b M u v = some w → (b = true → Ft (mE (rn1 M) w u)) ∧ (b = false → Ft (mE (rn2 M) w v))
  | [], [], w, h => by simp only [jE, Option.some.injEq] at h; subst h; exact ⟨fun _ => Ft.nil, fun _ => Ft.nil⟩
  | [], _ :: _, w, h => by simp [jE] at h
  | _ :: _, [], w, h => by simp [jE] at h
  | a :: x, c :: y, w, h => by
    simp only [jE] at h
    cases hb : Nat.beq a.born c.born with
    | false => rw [hb] at h; cases h
    | true =>
      rw [hb, cond_true] at h
      split at h
      · rename_i k hk
        split at h
        · rename_i v hv
          rw [Option.map_eq_some_iff] at h
          obtain ⟨l', h, rfl⟩ := h
          refine ⟨fun e => ?_, fun e => ?_⟩ <;> simp only [mE]
          · exact Ft.and (Ft.and (Ft.chk (Nat.beq_refl _)) (Ft.and ((jV_mV hk).1 e) ((jV_mV hv).1 e))) ((jE_mE h).1 e)
          · exact Ft.and (Ft.and (Ft.chk hb) (Ft.and ((jV_mV hk).2 e) ((jV_mV hv).2 e))) ((jE_mE h).2 e)
        · cases h
      · cases h

def rtyOf : Option AObj → Option AObj → Option RTy
  | some (.seq t _ _), _ => some t
  | _, some (.seq t _ _) => some t
  | _, _ => none

def jSeq (b : Bool) (s1 s2 : Src) (o1 o2 : Option AObj) : Option AObj := match rtyOf o1 o2 with
  | none => none
  | some t => match rowsVia t s1 o1 with
    | none => none
    | some a => match rowsVia t s2 o2 with
      | none => none
      | some c => some (.seq t (bif b then a else c) none)

def jO (b : Bool) (M : Mp) (s1 s2 : Src) (o1 o2 : Option AObj) : Option AObj := match s1, s2, o1, o2 with
  | .same _, .same _, some (.cells ro es cs ty), some (.cells ro' es' cs' ty') => bif (ro == ro') && Nat.beq es es' then (jVL b M cs cs').map fun ws => .cells ro es ws (tyJ ty ty') else none
  | .same _, .same _, some (.map es cl), some (.map es' cl') => bif Nat.beq cl cl' then (jE b M es es').map fun ws => .map ws cl else none
  | .same _, .same _, some (.smap ka va kr vr m bs clk), some (.smap ka' va' kr' vr' m' bs' clk') => bif (ka == ka') && (va == va') then
      if h : RTy.same kr' kr = true then if h2 : RTy.same vr' vr = true then some (.smap ka va kr vr (bif b then m else castMap (RTy.same_eq h) (RTy.same_eq h2) m') (bif b then bs else bs') (bif b then clk else clk')) else none else none
    else none
  | s1, s2, o1, o2 => jSeq b s1 s2 o1 o2

theorem jSeq_mO {b : Bool} {s1 s2 : Src} {o1 o2 : Option AObj} {w : AObj} (h : jSeq b s1 s2 o1 o2 = some w) {r r' : Ren} : (b = true → Ft (mO r w s1 o1)) ∧ (b = false → Ft (mO r' w s2 o2)) := by
  unfold jSeq at h
  split at h
  · cases h
  · split at h
    · cases h
    · rename_i a ha
      split at h
      · cases h
      · rename_i c hc
        cases h
        constructor
        · rintro rfl; exact rowsVia_mO ha
        · rintro rfl; exact rowsVia_mO hc

theorem jO_mO {b : Bool} {M : Mp} {s1 s2 : Src} {o1 o2 : Option AObj} {w : AObj} (h : jO b M s1 s2 o1 o2 = some w) : (b = true → Ft (mO (rn1 M) w s1 o1)) ∧ (b = false → Ft (mO (rn2 M) w s2 o2)) := by
  unfold jO at h
  split at h
  · rename_i ro es cs ty ro' es' cs' ty'
    cases hb : ((ro == ro') && Nat.beq es es') with
    | false => rw [hb] at h; cases h
    | true =>
      rw [hb, cond_true, Option.map_eq_some_iff] at h
      obtain ⟨ws, hw, rfl⟩ := h
      rw [Bool.and_eq_true] at hb
      refine ⟨fun e => ?_, fun e => ?_⟩ <;> simp only [mO]
      · exact Ft.and (Ft.chk (by simp [Nat.beq_refl, tyJ_fits.1])) ((jVL_mV hw).1 e)
      · exact Ft.and (Ft.chk (by rw [hb.1, hb.2, tyJ_fits.2]; rfl)) ((jVL_mV hw).2 e)
  · rename_i es cl es' cl'
    cases hb : Nat.beq cl cl' with
    | false => rw [hb] at h; cases h
    | true =>
      rw [hb, cond_true, Option.map_eq_some_iff] at h
      obtain ⟨ws, hw, rfl⟩ := h
      refine ⟨fun e => ?_, fun e => ?_⟩ <;> simp only [mO]
      · exact Ft.and (Ft.chk (Nat.beq_refl _)) ((jE_mE hw).1 e)
      · exact Ft.and (Ft.chk hb) ((jE_mE hw).2 e)
  · rename_i ka va kr vr m bs clk ka' va' kr' vr' m' bs' clk'
    cases hb : ((ka == ka') && (va == va')) with
    | false => rw [hb] at h; cases h
    | true =>
      rw [hb, cond_true] at h
      simp only [Bool.and_eq_true, beq_iff_eq] at hb
      obtain ⟨rfl, rfl⟩ := hb
      split at h
      · rename_i hs
        have e := RTy.same_eq hs
        subst e
        split at h
        · rename_i hs2
          have e := RTy.same_eq hs2
          subst e
          cases h
          constructor
          · rintro rfl; simp only [mO, beq_self_eq_true, Bool.and_self, cond_true, cond_false, hs, hs2, dite_true]; exact ⟨_, rfl, by first | rfl | trivial, by first | rfl | trivial, by first | rfl | trivial, trivial⟩
          · rintro rfl; simp only [mO, beq_self_eq_true, Bool.and_self, cond_true, cond_false, hs, hs2, dite_true]; exact ⟨_, rfl, by first | rfl | trivial, by first | rfl | trivial, by first | rfl | trivial, trivial⟩
        · cases h
      · cases h
  · exact jSeq_mO h

def selfT (K : Nat) : T AV → Bool
  | .nil => true
  | .node l v r => (match v with
    | none => true
    | some u => selfV K u) && selfT K l && selfT K r

theorem selfT_mT {K : Nat} {r : Ren} (hr : Roots K r) : ∀ {t : T AV}, selfT K t = true → Ft (mT r t t)
  | .nil, _ => Ft.nil
  | .node a v b, h => by
    simp only [selfT, Bool.and_eq_true] at h
    simp only [mT]
    refine Ft.and ?_ (Ft.and (selfT_mT hr h.1.2) (selfT_mT hr h.2))
    cases v with
    | none => exact Ft.nil
    | some u => exact selfV_mV hr h.1.1

def selfE (K : Nat) : List Ent → Bool
  | [] => true
  | e :: es => selfV K e.key && selfV K e.val && selfE K es

theorem selfE_mE {K : Nat} {r : Ren} (hr : Roots K r) : ∀ {t : List Ent}, selfE K t = true → Ft (mE r t t)
  | [], _ => Ft.nil
  | e :: es, h => by
    simp only [selfE, Bool.and_eq_true] at h
    simp only [mE]
    exact Ft.and (Ft.and (Ft.chk (Nat.beq_refl _)) (Ft.and (selfV_mV hr h.1.1) (selfV_mV hr h.1.2))) (selfE_mE hr h.2)

def selfO (K : Nat) : AObj → Bool
  | .cells _ _ cs _ => selfL K cs
  | .map es _ => selfE K es
  | .seq _ _ _ => true
  | .smap _ _ _ _ _ _ _ => true
  | .loop _ pd _ fr _ _ _ _ => match pd with
    | none => selfT K fr
    | some _ => false
  | .sIter _ _ => true
  | .mIter m _ _ _ => Nat.blt m K
  | .smIter m _ _ _ => Nat.blt m K

/-- Nobody comes back to it. -/
def goneO : AObj → Bool
  | .loop st _ _ _ _ _ _ _ => st == .exhausted
  | _ => false

theorem natsEq_refl : ∀ (l : List Nat), natsEq l l = true
  | [] => rfl
  | a :: l => by simp [natsEq, Nat.beq_refl, natsEq_refl l]

theorem tyFits_refl (t : Option TypeId) : tyFits t t = true := by cases t <;> simp [tyFits, Nat.beq_refl]

theorem selfO_mO {K : Nat} {r : Ren} (hr : Roots K r) {o : AObj} {j : Nat} (h : selfO K o = true) : Ft (mO r o (.same j) (some o)) := by
  cases o <;> simp only [selfO] at h <;> simp only [mO]
  case cells ro es cs ty => exact Ft.and (Ft.chk (by simp [Nat.beq_refl, tyFits_refl])) (selfL_mV hr h)
  case map es cl => exact Ft.and (Ft.chk (Nat.beq_refl _)) (selfE_mE hr h)
  case seq t rows ty => rw [tyFits_refl, cond_true, dif_pos (RTy.same_refl t)]; exact Ft.one (by first | rfl | trivial)
  case smap ka va kr vr m bs clk => simp only [beq_self_eq_true, Bool.and_self, cond_true]; rw [dif_pos (RTy.same_refl kr), dif_pos (RTy.same_refl vr)]; exact ⟨_, rfl, by first | rfl | trivial, by first | rfl | trivial, by first | rfl | trivial, trivial⟩
  case loop st pd f fr n ps as bd =>
    cases pd with
    | some c => cases h
    | none =>
      simp only at h ⊢
      refine Ft.and (Ft.chk ?_) (Ft.and (selfT_mT hr h) ⟨_, rfl, by first | rfl | trivial, by first | rfl | trivial, trivial⟩)
      simp [Nat.beq_refl, natsEq_refl]
  case sIter s pos => exact Ft.chk (by simp [eqB_refl, Nat.beq_refl])
  case smIter m since seen stepped => simp only [hr _ (blt_lt h), cond_true]; exact ⟨_, rfl, by first | rfl | trivial, by first | rfl | trivial, by first | rfl | trivial, trivial⟩
  case mIter m since seen stepped => exact Ft.chk (by simp [hr _ (blt_lt h), Nat.beq_refl, natsEq_refl])

def deadO (o : Option AObj) (s : Src) : Bool := match s with
  | .same _ => o.isNone
  | _ => false

/-- The same block, that has no bit. -/
def cleanB (K m i : Nat) : Bool := Nat.blt i K && !m.testBit i

def jOs (b : Bool) (K m : Nat) (M : Mp) (H1 H2 : Heap) : Nat → Mp → Option (List (Nat × AObj))
  | _, [] => some []
  | i, p :: l => bif deadO (p.1.id?.bind H1.get) p.1 || deadO (p.2.id?.bind H2.get) p.2 then jOs b K m M H1 H2 (i + 1) l
    else match cleanB K m i with
      | true => match H1.get i with
        | none => none
        | some o => bif selfO K o then (jOs b K m M H1 H2 (i + 1) l).map ((i, o) :: ·) else bif goneO o then jOs b K m M H1 H2 (i + 1) l else none
      | false => match jO b M p.1 p.2 (p.1.id?.bind H1.get) (p.2.id?.bind H2.get) with
        | some w => (jOs b K m M H1 H2 (i + 1) l).map ((i, w) :: ·)
        | none => none

theorem Roots.lk {K : Nat} {r : Ren} (h : Roots K r) {i : Nat} (hi : i < K) : lk r i = some (.same i) := isSame_lk (h i hi)

theorem jOs_mO {b : Bool} {K m : Nat} {M : Mp} {H1 H2 : Heap} (r1 : Roots K (rn1 M)) (r2 : Roots K (rn2 M)) (hH : ∀ i o o', i < K → m.testBit i = false → H1.get i = some o → H2.get i = some o' → o = o') :
    ∀ {l : Mp} {i0 : Nat} {os : List (Nat × AObj)}, jOs b K m M H1 H2 i0 l = some os → (∀ k p, l[k]? = some p → M[i0 + k]? = some p) → ∀ i o, (i, o) ∈ os → ∃ p, M[i]? = some p ∧
    (b = true → Ft (mO (rn1 M) o p.1 (p.1.id?.bind H1.get))) ∧ (b = false → Ft (mO (rn2 M) o p.2 (p.2.id?.bind H2.get))) ∧ (i < K → m.testBit i = false → H1.get i = some o)
  | [], i0, os, h, _, i, o, hm => by
    simp only [jOs, Option.some.injEq] at h; subst h; cases hm
  | p :: l, i0, os, h, hM, i, o, hm => by
    unfold jOs at h
    have hM' : ∀ k q, l[k]? = some q → M[i0 + 1 + k]? = some q := fun k q hk => by
      have := hM (k + 1) q (by simpa using hk)
      rwa [show i0 + (k + 1) = i0 + 1 + k by omega] at this
    have hp : M[i0]? = some p := by have := hM 0 p rfl; simpa using this
    cases hb : (deadO (p.1.id?.bind H1.get) p.1 || deadO (p.2.id?.bind H2.get) p.2) with
    | true => rw [hb, cond_true] at h; exact jOs_mO r1 r2 hH h hM' i o hm
    | false =>
      rw [hb, cond_false] at h
      split at h
      · rename_i hc
        split at h
        · cases h
        · rename_i o1 ho1
          cases hs : selfO K o1 with
          | false =>
            rw [hs, cond_false] at h
            cases hg : goneO o1 with
            | false => rw [hg] at h; cases h
            | true => rw [hg, cond_true] at h; exact jOs_mO r1 r2 hH h hM' i o hm
          | true =>
            rw [hs, cond_true, Option.map_eq_some_iff] at h
            obtain ⟨os', h, rfl⟩ := h
            rcases List.mem_cons.1 hm with hm | hm
            · cases hm
              unfold cleanB at hc
              simp only [Bool.and_eq_true, Bool.not_eq_true'] at hc
              have hiK := blt_lt hc.1
              have k1 := r1.lk hiK
              have k2 := r2.lk hiK
              rw [rn1, lk_rnL, if_pos (Nat.zero_le _), Nat.sub_zero, hp] at k1
              rw [rn2, lk_rnL, if_pos (Nat.zero_le _), Nat.sub_zero, hp] at k2
              simp only [Option.map_some, Option.some.injEq] at k1 k2
              refine ⟨p, hp, fun _ => ?_, fun _ => ?_, fun _ _ => ho1⟩
              · rw [k1]; simp only [Src.id?, Option.bind_some]; rw [ho1]; exact selfO_mO r1 hs
              · rw [k2]; simp only [Src.id?, Option.bind_some]
                cases ho2 : H2.get i0 with
                | none =>
                  exfalso
                  rw [Bool.or_eq_false_iff] at hb
                  have := hb.2
                  rw [k2] at this
                  simp only [deadO, Src.id?, Option.bind_some, ho2, Option.isNone_none] at this
                  cases this
                | some o2 =>
                  have e := hH i0 _ _ hiK hc.2 ho1 ho2
                  subst e
                  exact selfO_mO r2 hs
            · exact jOs_mO r1 r2 hH h hM' i o hm
      · rename_i hc
        split at h
        · rename_i w hw
          rw [Option.map_eq_some_iff] at h
          obtain ⟨os', h, rfl⟩ := h
          rcases List.mem_cons.1 hm with hm | hm
          · cases hm
            refine ⟨p, hp, (jO_mO hw).1, (jO_mO hw).2, fun h1 h2 => ?_⟩
            unfold cleanB at hc
            rw [h2] at hc
            have : Nat.blt i0 K = true := by simpa [Nat.blt_eq] using h1
            rw [this] at hc; cases hc
          · exact jOs_mO r1 r2 hH h hM' i o hm
        · cases h

def hpOf : List (Nat × AObj) → T AObj
  | [] => .nil
  | (i, o) :: l => (hpOf l).set i (some o)

theorem hpOf_get : ∀ (l : List (Nat × AObj)) (t : Nat) (o : AObj), (hpOf l).get t = some o → (t, o) ∈ l
  | [], t, o, h => by simp [hpOf] at h
  | (t', o') :: l, t, o, h => by
    simp only [hpOf, T.get_set] at h
    by_cases e : t = t'
    · subst e
      rw [if_pos rfl] at h; cases h; exact List.mem_cons_self ..
    · rw [if_neg e] at h; exact List.mem_cons_of_mem _ (hpOf_get l t o h)

theorem mOs_of {r : Ren} {H0 H : Heap} : ∀ {l : List Nat}, (∀ i ∈ l, ∀ o, H0.get i = some o → ∃ s, lk r i = some s ∧ Ft (mO r o s (s.id?.bind H.get))) → Ft (mOs r H0 H l)
  | [], _ => Ft.nil
  | i :: l, h => by
    simp only [mOs]
    refine Ft.and ?_ (mOs_of fun j hj => h j (List.mem_cons_of_mem _ hj))
    cases ho : H0.get i with
    | none => exact Ft.nil
    | some o =>
      obtain ⟨s, h1, h2⟩ := h i (List.mem_cons_self ..) o ho
      simp only [h1]; exact h2

/-! ### Finding the names (nothing here is relied upon) -/
def addS (M : Mp) (s1 s2 : Src) : Mp := match s1, s2 with
  | .same i, .same j => match nm M i j with
    | some _ => M
    | none => M ++ [(s1, s2)]
  | s1, s2 => M ++ [(s1, s2)]

def esOf (H : Heap) : AV → Nat
  | .sw i => match H.get i with
    | some (.seq r _ _) => r.size
    | _ => 0
  | .slc i _ _ _ _ => match H.get i with
    | some (.cells _ es _ _) => es
    | _ => 0
  | _ => 0

def srcW (H : Heap) (es : Nat) : AV → Option Src
  | .sw i => some (.same i)
  | .slc i off len cap ex => some (.sub i off es len cap ex)
  | .nilSlc => some (.void es)
  | _ => none

def pW (H1 H2 : Heap) (M : Mp) (u v : AV) : Mp := match nmW M u v with
  | some _ => M
  | none => match srcW H1 (Nat.max (esOf H1 u) (esOf H2 v)) u with
    | none => M
    | some s1 => match srcW H2 (Nat.max (esOf H1 u) (esOf H2 v)) v with
      | none => M
      | some s2 => addS M s1 s2

mutual
def pV (H1 H2 : Heap) (M : Mp) : AV → AV → Mp
  | .ptr i _, .ptr j _ => addS M (.same i) (.same j)
  | .map i, .map j => addS M (.same i) (.same j)
  | .yld i, .yld j => addS M (.same i) (.same j)
  | .fn _ a c, .fn _ a' c' => pVL H1 H2 (pVL H1 H2 M a a') c c'
  | .iface _ u, .iface _ u' => pV H1 H2 M u u'
  | .agg a, .agg a' => pVL H1 H2 M a a'
  | .tup a, .tup a' => pVL H1 H2 M a a'
  | .eptr i _ _, .eptr j _ _ => addS M (.same i) (.same j)
  | .ss i _ _, .ss j _ _ => addS M (.same i) (.same j)
  | .nilSlc, .nilSlc => M
  | .slc i off len cap ex, .slc j off' len' cap' ex' => bif Nat.beq off off' && Nat.beq len len' && Nat.beq cap cap' && (ex == ex') then addS M (.same i) (.same j) else pW H1 H2 M (.slc i off len cap ex) (.slc j off' len' cap' ex')
  | u, v => pW H1 H2 M u v
def pVL (H1 H2 : Heap) (M : Mp) : List AV → List AV → Mp
  | u :: us, v :: vs => pVL H1 H2 (pV H1 H2 M u v) us vs
  | _, _ => M
end

def pE (H1 H2 : Heap) (M : Mp) : List Ent → List Ent → Mp
  | a :: x, c :: y => pE H1 H2 (pV H1 H2 (pV H1 H2 M a.key c.key) a.val c.val) x y
  | _, _ => M

def pO (H1 H2 : Heap) (M : Mp) : Option AObj → Option AObj → Mp
  | some (.cells _ _ cs _), some (.cells _ _ cs' _) => pVL H1 H2 M cs cs'
  | some (.map es _), some (.map es' _) => pE H1 H2 M es es'
  | _, _ => M

def pFr (m : Nat) (H1 H2 : Heap) (f1 f2 : Fr) : Mp → List Nat → Mp
  | M, [] => M
  | M, t :: ts => pFr m H1 H2 f1 f2 (bif m.testBit t then (match f1.get t with
    | none => M
    | some u => match f2.get t with
      | none => M
      | some v => pV H1 H2 M u v) else M) ts

def pGo (K m : Nat) (H1 H2 : Heap) : Nat → Nat → Mp → Mp
  | 0, _, M => M
  | f + 1, d, M => match M[d]? with
    | none => M
    | some p => pGo K m H1 H2 f (d + 1) (bif cleanB K m d then M else match p with
      | (.same i, .same j) => pO H1 H2 M (H1.get i) (H2.get j)
      | _ => M)

def tix {α : Type} (g : Nat → Nat) : T α → List Nat
  | .nil => []
  | .node l v r => (match v with
    | some _ => [g 0]
    | none => []) ++ tix (fun k => g (2 * k + 1)) l ++ tix (fun k => g (2 * k + 2)) r

def mpRoots : Nat → Mp
  | 0 => []
  | k + 1 => mpRoots k ++ [(.same k, .same k)]

def findMp (K mf mh : Nat) (f1 : Fr) (H1 : Heap) (f2 : Fr) (H2 : Heap) : Mp := pGo K mh H1 H2 (H1.next + H2.next + 1) 0 (pFr mf H1 H2 f1 f2 (mpRoots K) (tix id f1))

/-! ### Two states -/
def sideOk (K : Nat) (r : Ren) (H0 H : Heap) : Bool :=
  rootsOk r K && Nat.ble K H0.next && Nat.ble K H.next && distinct r [] [] && r.all (fun p => Nat.blt p.1 H0.next) && subsOk H0 r && T.allK (fun i => Nat.blt i H0.next) H0.t

/-- The state that is told as one: K names were there before; the masks tell which slots, which blocks may differ. -/
def jSt (b : Bool) (K mf mh : Nat) (M : Mp) (f1 : Fr) (H1 : Heap) (f2 : Fr) (H2 : Heap) : Option (Fr × Heap) :=
  match jOs b K mh M H1 H2 0 M with
  | none => none
  | some os => match jF b K mf M f1 f2 (tix id f1) with
    | none => none
    | some fl => bif sideOk K (rn1 M) { t := hpOf os, next := M.length } H1 && sideOk K (rn2 M) { t := hpOf os, next := M.length } H2 then some (frOf fl, { t := hpOf os, next := M.length, d := H1.d ||| H2.d }) else none

def join (b : Bool) (K mf mh : Nat) (f1 : Fr) (H1 : Heap) (f2 : Fr) (H2 : Heap) : Option (Fr × Heap) := jSt b K mf mh (findMp K mf mh f1 H1 f2 H2) f1 H1 f2 H2

theorem mS_of {K : Nat} {r : Ren} {fl : List (Nat × AV)} {H0 : Heap} {fr : Fr} {H : Heap} (h1 : sideOk K r H0 H = true) (h2 : Ft (mF r fr fl)) (h3 : Ft (mOs r H0 H (List.range H0.next))) : Abs K fr H (frOf fl) H0 := by
  obtain ⟨ps, h4, h5⟩ := Ft.and h2 h3
  refine mS_sound (r := r) (ps := ps) ?_ h5
  unfold mS
  unfold sideOk at h1
  rw [h1, cond_true]; exact h4

theorem Roots.of {K : Nat} {r : Ren} {H0 H : Heap} (h : sideOk K r H0 H = true) : Roots K r := fun i hi => by
  unfold sideOk at h
  simp only [Bool.and_eq_true] at h
  have := rootsOk_sound h.1.1.1.1.1.1 i hi
  unfold isSame; rw [this]; exact Nat.beq_refl _

theorem sideOk_le {K : Nat} {r : Ren} {H0 H : Heap} (h : sideOk K r H0 H = true) : K ≤ H0.next ∧ K ≤ H.next := by
  unfold sideOk at h
  simp only [Bool.and_eq_true] at h
  exact ⟨Nat.le_of_ble_eq_true h.1.1.1.1.1.2, Nat.le_of_ble_eq_true h.1.1.1.1.2⟩

theorem ExtK.le {K K' B : Nat} {ρ ρ' : Env} {w w' : World} (h : ExtK K B ρ w ρ' w') (hk : K' ≤ K) : ExtK K' B ρ w ρ' w' where
  pre := by have := congrArg (List.take K') h.pre; rwa [List.take_take, List.take_take, Nat.min_eq_left hk] at this
  kle := Nat.le_trans hk h.kle
  fz := h.fz
  os := h.os
  tape := h.tape
  output := h.output
  size := h.size
  below := h.below
  other := h.other
  new := h.new
  fzn := h.fzn

theorem HR.mask {B : Nat} {ρ : Env} {H H' : Heap} {w : World} (h : HR B ρ H w) (ht : H'.t = H.t) (hn : H'.next = H.next) : HR B ρ H' w where
  next := hn.trans h.next
  base := h.base
  bnd := h.bnd
  obj i o hi := h.obj i o (by unfold Heap.get at hi ⊢; rw [← ht]; exact hi)
  inj i j o o' e e' hi hj := h.inj i j o o' e e' (by unfold Heap.get at hi ⊢; rw [← ht]; exact hi) (by unfold Heap.get at hj ⊢; rw [← ht]; exact hj)
  fz := h.fz
  fzo i o e c hi := h.fzo i o e c (by unfold Heap.get at hi ⊢; rw [← ht]; exact hi)

/-- From the names that were there before to fewer. -/
theorem Abs.le {K K' : Nat} {f f' : Fr} {H H' : Heap} (h : Abs K f H f' H') (hk : K' ≤ K) (hn : K ≤ H.next) : Abs K' f H f' H' := fun B ρ w tmps hK hr hf =>
  let ⟨ρ', h1, h2, h3⟩ := h B ρ w tmps (by rw [← hr.next]; exact hn) hr hf
  ⟨ρ', h1, h2, h3.le hk⟩

theorem Abs.mask {K : Nat} {f f' : Fr} {H H' H2 H2' : Heap} (h : Abs K f H f' H') (h1 : H2.t = H.t) (h2 : H2.next = H.next) (h3 : H2'.t = H'.t) (h4 : H2'.next = H'.next) : Abs K f H2 f' H2' := fun B ρ w tmps hK hr hf =>
  let ⟨ρ', g1, g2, g3⟩ := h B ρ w tmps hK (hr.mask h1.symm h2.symm) hf
  ⟨ρ', g1.mask h3 h4, g2, g3⟩

structure Joined (b : Bool) (K mf mh : Nat) (f1 : Fr) (H1 : Heap) (f2 : Fr) (H2 : Heap) (fr : Fr) (H : Heap) : Prop where
  one : b = true → Abs K f1 H1 fr H
  two : b = false → Abs K f2 H2 fr H
  keep : ∀ t w, fr.get t = some w → mf.testBit t = false → f1.get t = some w
  keepH : ∀ i o, H.get i = some o → i < K → mh.testBit i = false → H1.get i = some o
  d : H.d = H1.d ||| H2.d
  next : K ≤ H.next
  next1 : K ≤ H1.next
  next2 : K ≤ H2.next

theorem join_ok {b : Bool} {K mf mh : Nat} {f1 f2 fr : Fr} {H1 H2 H : Heap} (h : join b K mf mh f1 H1 f2 H2 = some (fr, H)) (hF : ∀ t u v, mf.testBit t = false → f1.get t = some u → f2.get t = some v → u = v)
    (hH : ∀ i o o', i < K → mh.testBit i = false → H1.get i = some o → H2.get i = some o' → o = o') : Joined b K mf mh f1 H1 f2 H2 fr H := by
  unfold join at h
  generalize findMp K mf mh f1 H1 f2 H2 = M at h
  unfold jSt at h
  split at h
  · cases h
  · rename_i os hos
    split at h
    · cases h
    · rename_i fl hfl
      cases hc : (sideOk K (rn1 M) { t := hpOf os, next := M.length } H1 && sideOk K (rn2 M) { t := hpOf os, next := M.length } H2) with
      | false => rw [hc] at h; cases h
      | true =>
        rw [hc, cond_true] at h
        cases h
        rw [Bool.and_eq_true] at hc
        have r1 := Roots.of hc.1
        have r2 := Roots.of hc.2
        have hM : ∀ k p, M[k]? = some p → M[0 + k]? = some p := fun k p hk => by rwa [Nat.zero_add]
        have hj := jOs_mO r1 r2 hH hos hM
        have e1 : b = true → Abs K f1 H1 (frOf fl) { t := hpOf os, next := M.length } := fun e => mS_of hc.1 ((jF_mF r1 r2 hF hfl).1 e) (mOs_of fun i hi o ho => by
          obtain ⟨p, k1, k2, k3⟩ := hj i o (hpOf_get _ _ _ ho)
          exact ⟨p.1, by rw [rn1, lk_rnL, if_pos (Nat.zero_le _), Nat.sub_zero, k1]; rfl, k2 e⟩)
        have e2 : b = false → Abs K f2 H2 (frOf fl) { t := hpOf os, next := M.length } := fun e => mS_of hc.2 ((jF_mF r1 r2 hF hfl).2 e) (mOs_of fun i hi o ho => by
          obtain ⟨p, k1, k2, k3, k4⟩ := hj i o (hpOf_get _ _ _ ho)
          exact ⟨p.2, by rw [rn2, lk_rnL, if_pos (Nat.zero_le _), Nat.sub_zero, k1]; rfl, k3 e⟩)
        refine ⟨fun e => (e1 e).mask rfl rfl rfl rfl, fun e => (e2 e).mask rfl rfl rfl rfl, fun t w ht hm => jF_keep hfl t w (frOf_get _ _ _ ht) hm, fun i o ho hi hm => ?_, rfl, (sideOk_le hc.1).1, (sideOk_le hc.1).2, (sideOk_le hc.2).2⟩
        obtain ⟨p, k1, k2, k3, k4⟩ := hj i o (hpOf_get _ _ _ ho)
        exact k4 hi hm

theorem Abs.trans {K : Nat} {f1 f2 f3 : Fr} {H1 H2 H3 : Heap} (h : Abs K f1 H1 f2 H2) (k : Abs K f2 H2 f3 H3) : Abs K f1 H1 f3 H3 := fun B ρ w tmps hK hr hf =>
  let ⟨ρ1, a1, a2, a3⟩ := h B ρ w tmps hK hr hf
  let ⟨ρ2, b1, b2, b3⟩ := k B ρ1 w tmps a3.kle a1 a2
  ⟨ρ2, b1, b2, a3.trans b3⟩

theorem Abs.refl (K : Nat) (f : Fr) (H : Heap) : Abs K f H f H := fun B ρ w tmps hK hr hf => ⟨ρ, hr, hf, ExtK.refl _ _ _ hK⟩
end
end Go.AM
