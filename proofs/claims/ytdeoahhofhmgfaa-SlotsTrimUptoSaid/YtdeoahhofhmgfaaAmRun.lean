/- THE ABSTRACT MACHINE, 19: a machine that runs by itself; what it ends in is what the code does. -/
import Derived.Test.YtdeoahhofhmgfaaAmRng
namespace Go.AM
open Go.RowKit

/-! ### The same value -/
def sameK : IntKind → IntKind → Bool := fun a b => decide (a = b)

mutual
def AV.same : AV → AV → Bool
  | .bool a, .bool b => a == b
  | .int k a, .int k' b => sameK k k' && decide (a = b)
  | .str a, .str b => eqB a b
  | .nilPtr, .nilPtr => true
  | .ptr i o, .ptr i' o' => Nat.beq i i' && Nat.beq o o'
  | .nilSlc, .nilSlc => true
  | .slc i o l c e, .slc i' o' l' c' e' => Nat.beq i i' && Nat.beq o o' && Nat.beq l l' && Nat.beq c c' && (e == e')
  | .emp, .emp => true
  | .nilMap, .nilMap => true
  | .map i, .map i' => Nat.beq i i'
  | .nilFn, .nilFn => true
  | .fn (.func f) a b, .fn (.func f') a' b' => Nat.beq f f' && AV.sameL a a' && AV.sameL b b'
  | .yld i, .yld i' => Nat.beq i i'
  | .nilIface, .nilIface => true
  | .iface t v, .iface t' v' => Nat.beq t t' && AV.same v v'
  | .agg a, .agg b => AV.sameL a b
  | .tup a, .tup b => AV.sameL a b
  | _, _ => false
def AV.sameL : List AV → List AV → Bool
  | [], [] => true
  | a :: x, b :: y => AV.same a b && AV.sameL x y
  | _, _ => false
end

theorem eqB_sound {a b : List UInt8} (h : eqB a b = true) : a = b := by
  first | exact eqB_eq.1 h | (rw [eqB_eq] at h; simpa using h)

theorem nbeq {a b : Nat} (h : Nat.beq a b = true) : a = b := Nat.eq_of_beq_eq_true h

mutual
theorem AV.same_eq : ∀ {a b : AV}, AV.same a b = true → a = b := by
  intro a b h
  unfold AV.same at h
  split at h <;> (try simp only [Bool.and_eq_true] at h)
  all_goals first
    | rfl
    | (cases h; done)
    | skip
  · rw [eq_of_beq h]
  · rw [of_decide_eq_true h.1, of_decide_eq_true h.2]
  · rw [eqB_sound h]
  · rw [nbeq h.1, nbeq h.2]
  · rw [nbeq h.1.1.1.1, nbeq h.1.1.1.2, nbeq h.1.1.2, nbeq h.1.2, eq_of_beq h.2]
  · rw [nbeq h]
  · rw [nbeq h.1.1, AV.sameL_eq h.1.2, AV.sameL_eq h.2]
  · rw [nbeq h]
  · rw [nbeq h.1, AV.same_eq h.2]
  · rw [AV.sameL_eq h]
  · rw [AV.sameL_eq h]
theorem AV.sameL_eq : ∀ {a b : List AV}, AV.sameL a b = true → a = b := by
  intro a b h
  unfold AV.sameL at h
  split at h
  · rfl
  · rw [Bool.and_eq_true] at h
    rw [AV.same_eq h.1, AV.sameL_eq h.2]
  · cases h
end

/-! ### The plan of a region -/
def bmask (acc : List Nat) (o : Oper) : Nat := o.after.toList.foldl (fun s e => bif Region.binds .any e then s ||| (2 ^ e.on ||| acc.getD e.on 0) else s) 0

def ancsGo : List Oper → List Nat → List Nat
  | [], acc => acc
  | o :: os, acc => ancsGo os (acc ++ [bmask acc o])

def ancs (ops : Array Oper) : List Nat := ancsGo ops.toList []

def backOk : Nat → List Oper → Bool
  | _, [] => true
  | i, o :: os => o.after.toList.all (fun e => !Region.binds .any e || Nat.blt e.on i) && backOk (i + 1) os

/-- What is run next; where any of several may be next: each of them. -/
inductive Pl where
  | done
  | ro (i : Nat) (rest : Pl)
  | loud (i : Nat) (js : List Nat) (rest : Pl)
  | both (a b : Pl)

def Pl.heads : Pl → List Nat
  | .loud i _ _ => [i]
  | .both a b => a.heads ++ b.heads
  | _ => []

def Pl.grp : Pl → Bool
  | .loud _ _ _ => true
  | .both a b => a.grp && b.grp
  | _ => false

def inM (m i : Nat) : Bool := Nat.testBit m i
def subM (a b : Nat) : Bool := Nat.beq (a ||| b) b

section
variable (P : Program)

def firstSt (ops : Array Oper) (an : List Nat) (lA : Nat) (ro : Bool) : Option Nat :=
  (List.range ops.size).find? fun i => !inM lA i && subM (an.getD i 0) lA && match ops[i]? with
    | some o => roOp P o.op == ro
    | none => false

def louds (ops : Array Oper) (an : List Nat) (lA : Nat) : List Nat :=
  (List.range ops.size).filter fun i => !inM lA i && subM (an.getD i 0) lA && match ops[i]? with
    | some o => !roOp P o.op
    | none => false

def loudPl (ops : Array Oper) (an : List Nat) (lA i : Nat) (rest : Pl) : Pl :=
  .loud i ((List.range ops.size).filter fun j => inM lA j && !inM (an.getD i 0) j && match ops[j]? with
          | some o => roOp P o.op
          | none => false) rest

def mkPlan (ops : Array Oper) (an : List Nat) : Nat → Nat → Pl
  | 0, _ => .done
  | k + 1, lA => match firstSt P ops an lA true with
    | some i => .ro i (mkPlan ops an k (lA ||| 2 ^ i))
    | none => match louds P ops an lA with
      | [] => .done
      | i :: is => bif Nat.ble is.length 2 then is.foldl (fun p j => .both p (loudPl P ops an lA j (mkPlan ops an k (lA ||| 2 ^ j)))) (loudPl P ops an lA i (mkPlan ops an k (lA ||| 2 ^ i))) else .done

def dstOkR (ops : Array Oper) (an : List Nat) (i : Nat) : Bool :=
  match ops[i]? with
  | none => false
  | some o => match o.dst with
    | none => true
    | some d => (List.range ops.size).all fun k => match ops[k]? with
      | none => true
      | some ok =>
        (Nat.beq k i || match ok.dst with
          | some d' => !Nat.beq d' d
          | none => true) &&
        ((ok.op.operands.toList.all fun | .tmp t => !Nat.beq t d | _ => true) || inM (an.getD k 0) i) &&
        (match ok.guard with
          | some (j, _) => (match (ops[j]?).bind (·.dst) with
            | some d' => !Nat.beq d' d
            | none => true) || inM (an.getD k 0) i
          | none => true)

def okPlan (ops : Array Oper) (an : List Nat) : List Nat → Nat → Pl → Bool
  | _, lA, .done => (List.range ops.size).all fun k => inM lA k
  | _, lA, .ro i rest => !inM lA i && subM (an.getD i 0) lA && dstOkR ops an i && (match ops[i]? with
      | some o => roOp P o.op
      | none => false) && okPlan ops an rest.heads (lA ||| 2 ^ i) rest
  | hs, lA, .loud i js rest => !inM lA i && subM (an.getD i 0) lA && (ops[i]?).isSome &&
      ((List.range ops.size).all fun k => inM lA k || hs.any (Nat.beq k) || !subM (an.getD k 0) lA) &&
      ((List.range ops.size).all fun j => !inM lA j || inM (an.getD i 0) j || (match ops[j]? with
        | some o => !roOp P o.op
        | none => true) || js.any (Nat.beq j)) && okPlan ops an rest.heads (lA ||| 2 ^ i) rest
  | hs, lA, .both a b => a.grp && b.grp && okPlan ops an hs lA a && okPlan ops an hs lA b

def plan (ops : Array Oper) : Option Pl :=
  let an := ancs ops
  let p := mkPlan P ops an ops.size 0
  bif backOk 0 ops.toList && okPlan P ops an p.heads 0 p then some p else none
end

section
variable {P : Program} {ops : Array Oper}

theorem foldl_mask {f : Edge → Nat} {g : Edge → Bool} : ∀ (l : List Edge) (s j : Nat), (l.foldl (fun s e => bif g e then s ||| f e else s) s).testBit j = true ↔ s.testBit j = true ∨ ∃ e ∈ l, g e = true ∧ (f e).testBit j = true
  | [], s, j => by simp
  | e :: l, s, j => by
    rw [List.foldl_cons, foldl_mask l]
    cases hg : g e with
    | false =>
      simp only [cond_false, List.mem_cons]
      constructor
      · rintro (h | ⟨e', h1, h2⟩)
        · exact .inl h
        · exact .inr ⟨e', .inr h1, h2⟩
      · rintro (h | ⟨e', rfl | h1, h2, h3⟩)
        · exact .inl h
        · rw [hg] at h2; cases h2
        · exact .inr ⟨e', h1, h2, h3⟩
    | true =>
      simp only [cond_true, Nat.testBit_or, Bool.or_eq_true, List.mem_cons]
      constructor
      · rintro ((h | h) | ⟨e', h1, h2⟩)
        · exact .inl h
        · exact .inr ⟨e, .inl rfl, hg, h⟩
        · exact .inr ⟨e', .inr h1, h2⟩
      · rintro (h | ⟨e', rfl | h1, h2, h3⟩)
        · exact .inl (.inl h)
        · exact .inl (.inr h3)
        · exact .inr ⟨e', h1, h2, h3⟩

theorem bmask_bit {acc : List Nat} {o : Oper} {j : Nat} : (bmask acc o).testBit j = true ↔ ∃ e ∈ o.after, Region.binds .any e = true ∧ (j = e.on ∨ (acc.getD e.on 0).testBit j = true) := by
  unfold bmask
  rw [foldl_mask]
  simp only [Nat.zero_testBit, Bool.false_eq_true, false_or, Nat.testBit_or, Bool.or_eq_true, Nat.testBit_two_pow, decide_eq_true_iff, Array.mem_toList_iff]
  constructor
  · rintro ⟨e, h1, h2, h3⟩; exact ⟨e, h1, h2, h3.imp Eq.symm id⟩
  · rintro ⟨e, h1, h2, h3⟩; exact ⟨e, h1, h2, h3.imp Eq.symm id⟩

/-- What the list of the masks says, as far as it is laid. -/
def AncTo (ops : Array Oper) (acc : List Nat) : Prop :=
  (∀ i o, ops[i]? = some o → i < acc.length → ∀ e ∈ o.after, Region.binds .any e = true → (acc.getD i 0).testBit e.on = true) ∧
  (∀ L : Nat → Prop, (∀ i o, ops[i]? = some o → L i → ∀ e ∈ o.after, Region.binds .any e = true → L e.on) →
    ∀ i o, ops[i]? = some o → i < acc.length → (∀ e ∈ o.after, Region.binds .any e = true → L e.on) → ∀ j, (acc.getD i 0).testBit j = true → L j)

theorem getD_append_lt {acc : List Nat} {x i : Nat} (h : i < acc.length) : (acc ++ [x]).getD i 0 = acc.getD i 0 := by
  rw [List.getD_eq_getElem?_getD, List.getD_eq_getElem?_getD, List.getElem?_append_left h]

theorem getD_append_eq {acc : List Nat} {x : Nat} : (acc ++ [x]).getD acc.length 0 = x := by
  rw [List.getD_eq_getElem?_getD]; simp

theorem ancsGo_ok : ∀ (os pre : List Oper) (acc : List Nat), ops.toList = pre ++ os → acc.length = pre.length → AncTo ops acc → AncTo ops (ancsGo os acc) ∧ (ancsGo os acc).length = ops.size
  | [], pre, acc, hs, hl, h => ⟨h, by
    have : ops.toList.length = pre.length := by rw [hs]; simp
    simpa [ancsGo, hl] using this.symm⟩
  | o :: os, pre, acc, hs, hl, h => by
    refine ancsGo_ok os (pre ++ [o]) _ (by rw [hs]; simp) (by simp [hl]) ⟨fun i oi hi hlt e he hb => ?_, fun L hL i oi hi hlt hin j hj => ?_⟩
    · by_cases hia : i < acc.length
      · rw [getD_append_lt hia]; exact h.1 i oi hi hia e he hb
      · have hie : i = acc.length := by simp at hlt; omega
        subst hie
        have : oi = o := by
          rw [← Array.getElem?_toList, hs, hl] at hi
          simpa using hi.symm
        subst this
        rw [getD_append_eq, bmask_bit]
        exact ⟨e, he, hb, .inl rfl⟩
    · by_cases hia : i < acc.length
      · rw [getD_append_lt hia] at hj; exact h.2 L hL i oi hi hia hin j hj
      · have hie : i = acc.length := by simp at hlt; omega
        subst hie
        have : oi = o := by
          rw [← Array.getElem?_toList, hs, hl] at hi
          simpa using hi.symm
        subst this
        rw [getD_append_eq, bmask_bit] at hj
        obtain ⟨e, he, hb, rfl | hj⟩ := hj
        · exact hin e he hb
        · by_cases hea : e.on < acc.length
          · have hop : ∃ oe, ops[e.on]? = some oe := by
              have : e.on < ops.size := by
                have h1 : ops.toList.length = pre.length + (os.length + 1) := by rw [hs]; simp
                rw [Array.length_toList] at h1; omega
              exact ⟨_, Array.getElem?_eq_getElem this⟩
            obtain ⟨oe, hoe⟩ := hop
            exact h.2 L hL e.on oe hoe hea (hL e.on oe hoe (hin e he hb)) j hj
          · rw [List.getD_eq_getElem?_getD, List.getElem?_eq_none (by omega)] at hj
            simp at hj

theorem backOk_ok : ∀ (os pre : List Oper), ops.toList = pre ++ os → backOk pre.length os = true → ∀ i o, pre.length ≤ i → ops[i]? = some o → ∀ e ∈ o.after, Region.binds .any e = true → e.on < i
  | [], pre, hs, _, i, o, hle, hi, _, _, _ => by
    have := (Array.getElem?_eq_some_iff.1 hi).1
    have h1 : ops.toList.length = pre.length := by rw [hs]; simp
    rw [Array.length_toList] at h1; omega
  | o :: os, pre, hs, hb, i, oi, hle, hi, e, he, hbe => by
    simp only [backOk, Bool.and_eq_true, List.all_eq_true] at hb
    by_cases hie : i = pre.length
    · subst hie
      have : oi = o := by
        rw [← Array.getElem?_toList, hs] at hi
        simpa using hi.symm
      subst this
      have := hb.1 e (Array.mem_toList_iff.2 he)
      rw [hbe] at this
      simpa [Nat.blt_eq] using this
    · exact backOk_ok os (pre ++ [o]) (by rw [hs]; simp) (by simpa using hb.2) i oi (by simp; omega) hi e he hbe

theorem anc_of (h : backOk 0 ops.toList = true) : Anc ops fun i => (ancs ops).getD i 0 := by
  have hp : AncTo ops (ancs ops) ∧ (ancs ops).length = ops.size := ancsGo_ok ops.toList [] [] (by simp) rfl ⟨fun i o _ hlt => (by simp at hlt), fun L _ i o _ hlt => (by simp at hlt)⟩
  obtain ⟨hA, hl⟩ := hp
  have hlt : ∀ i o, ops[i]? = some o → i < (ancs ops).length := fun i o hi => by rw [hl]; exact (Array.getElem?_eq_some_iff.1 hi).1
  exact ⟨fun i o hi e he hb => ⟨backOk_ok ops.toList [] (by simp) h i o (Nat.zero_le _) hi e he hb, hA.1 i o hi (hlt i o hi) e he hb⟩,
    fun L hL i o hi hin j hj => hA.2 L hL i o hi (hlt i o hi) hin j hj⟩

theorem subM_bit {a b : Nat} (h : subM a b = true) {j : Nat} (hj : a.testBit j = true) : b.testBit j = true := by
  have := nbeq h
  rw [← this, Nat.testBit_or, hj]; rfl

theorem not_subM {a b : Nat} (h : subM a b = false) : ∃ j, a.testBit j = true ∧ b.testBit j = false := by
  refine Classical.byContradiction fun hno => ?_
  have : a ||| b = b := by
    refine Nat.eq_of_testBit_eq fun j => ?_
    rw [Nat.testBit_or]
    cases ha : a.testBit j with
    | false => simp
    | true =>
      cases hb : b.testBit j with
      | true => rfl
      | false => exact (hno ⟨j, ha, hb⟩).elim
  unfold subM at h
  rw [this, Nat.beq_refl] at h
  cases h

theorem grp_heads : ∀ {p : Pl}, p.grp = true → ∃ i, i ∈ p.heads
  | .loud i _ _, _ => ⟨i, List.mem_singleton.2 rfl⟩
  | .both a b, h => by
    simp only [Pl.grp, Bool.and_eq_true] at h
    obtain ⟨i, hi⟩ := grp_heads h.1
    exact ⟨i, List.mem_append_left _ hi⟩

/-- Who is not among the heads of a group waits for somebody. -/
theorem okPlan_alone {an : List Nat} (hA : Anc ops fun i => an.getD i 0) {hs : List Nat} {lA : Nat} (hd : Down ops lA) : ∀ {p : Pl}, p.grp = true → okPlan P ops an hs lA p = true → Alone ops lA hs
  | .both a b, hg, h => by
    simp only [okPlan, Bool.and_eq_true] at h
    exact okPlan_alone hA hd h.1.1.1 h.1.2
  | .loud i js rest, _, hok => by
    simp only [okPlan, Bool.and_eq_true, Bool.not_eq_true', List.all_eq_true, List.mem_range] at hok
    obtain ⟨⟨⟨⟨⟨k1, k2⟩, k3⟩, k4⟩, k5⟩, k6⟩ := hok
    intro k ok hk hb hki
    have := k4 k (Array.getElem?_eq_some_iff.1 hk).1
    simp only [Bool.or_eq_true, Bool.not_eq_true'] at this
    have hs : subM (an.getD k 0) lA = false := by
      rcases this with (h | h) | h
      · unfold inM at h; rw [hb] at h; cases h
      · rw [List.any_eq_true] at h
        obtain ⟨x, hx, hx2⟩ := h
        rw [← nbeq hx2] at hx
        exact absurd hx hki
      · exact h
    refine Classical.byContradiction fun hno => ?_
    obtain ⟨j, hj1, hj2⟩ := not_subM hs
    have := hA.close (fun j => lA.testBit j = true) (fun m om hm hmk e he hb => hd m om hm hmk e he hb) k ok hk (fun e he hbe => ?_) j hj1
    · rw [hj2] at this; cases this
    · cases hh : lA.testBit e.on with
      | true => rfl
      | false => exact (hno ⟨e, he, hbe, hh⟩).elim

theorem dstOk_ok {an : List Nat} {i : Nat} (h : dstOkR ops an i = true) : DstOk ops (fun i => an.getD i 0) i := by
  intro o d ho hd k ok hk
  unfold dstOkR at h
  rw [ho] at h
  simp only [hd, List.all_eq_true, List.mem_range] at h
  have hlt : k < ops.size := (Array.getElem?_eq_some_iff.1 hk).1
  have := h k hlt
  rw [hk] at this
  simp only [Bool.and_eq_true, Bool.or_eq_true] at this
  obtain ⟨⟨h1, h2⟩, h3⟩ := this
  refine ⟨fun hki hdst => ?_, fun hop => ?_, fun j b hg hd' => ?_⟩
  · rcases h1 with h1 | h1
    · exact hki (nbeq h1)
    · rw [hdst] at h1; simp [Nat.beq_refl] at h1
  · rcases h2 with h2 | h2
    · rw [List.all_eq_true] at h2
      have := h2 _ (Array.mem_toList_iff.2 hop)
      simp [Nat.beq_refl] at this
    · exact h2
  · rw [hg] at h3
    simp only [hd', Bool.or_eq_true] at h3
    rcases h3 with h3 | h3
    · simp [Nat.beq_refl] at h3
    · exact h3

end

end Go.AM
