/- THE ABSTRACT MACHINE, 16: a region whose order is open: operations that only look may come early or late; the others come one by one. -/
import Derived.Test.YtdeoahhofhmgfaaAmWo
namespace Go.AM
open Go.RowKit

/-- Operations that only look. -/
def roOp (P : Program) : Op → Bool
  | .move _ | .pick .. | .load .. | .nilCheck _ | .binOp .. | .unOp .. | .makeInterface .. | .makeFunc .. | .slice .. | .fieldAddr .. | .field .. | .indexAddr .. | .index .. | .entry _ | .lookup .. | .typeAssert .. | .extract .. | .build .. => true
  | .convert _ dst _ => match P.underlying dst with
    | some (.int _) => true
    | some .string => true
    | _ => false
  | .call { callee := .builtin b, .. } => match b with
    | .len | .cap | .min | .max => true
    | _ => false
  | _ => false

section
variable {P : Program} {fr fr' : Fr} {H : Heap}

theorem bind_map_val {α β : Type} {x : Option α} {g : α → Option β} {h : β → Res} {q : Res} (hr : (x.bind fun a => (g a).map h) = some q) : ∃ a b, x = some a ∧ g a = some b ∧ h b = q := by
  cases hx : x with
  | none => simp [hx] at hr
  | some a =>
    cases hg : g a with
    | none => simp [hx, hg] at hr
    | some b => simp [hx, hg] at hr; exact ⟨a, b, rfl, hg, hr⟩

set_option maxHeartbeats 4000000 in
theorem ro_val0 {o : Oper} {q : Res} (ho : roOp P o.op = true) (h : aop0 P fr H o = some q) : ∃ v, q = .val v H := by
  obtain ⟨dst, op, type, pos, after, guard⟩ := o
  unfold aop0 at h
  cases op <;> simp only [roOp, Bool.false_eq_true] at ho <;> simp only at h
  case move x => rw [Option.map_eq_some_iff] at h; obtain ⟨v, _, rfl⟩ := h; exact ⟨v, rfl⟩
  case pick c a b =>
    simp only [Option.bind_eq_some_iff] at h
    obtain ⟨v, _, h⟩ := h
    split at h
    · rw [Option.map_eq_some_iff] at h; obtain ⟨v, _, rfl⟩ := h; exact ⟨v, rfl⟩
    · rw [Option.map_eq_some_iff] at h; obtain ⟨v, _, rfl⟩ := h; exact ⟨v, rfl⟩
    · cases h
  case nilCheck x =>
    simp only [Option.bind_eq_some_iff] at h
    obtain ⟨v, _, h⟩ := h
    split at h <;> cases h <;> exact ⟨_, rfl⟩
  case makeInterface t x =>
    simp only [Option.bind_eq_some_iff] at h
    obtain ⟨v, _, d, _, h⟩ := h
    split at h
    · cases h
    · cases h; exact ⟨_, rfl⟩
  case makeFunc f a b =>
    split at h
    · cases h
    · simp only [Option.bind_eq_some_iff, Option.map_eq_some_iff] at h
      obtain ⟨v, _, u, _, rfl⟩ := h; exact ⟨_, rfl⟩
  case extract t i =>
    simp only [Option.bind_eq_some_iff] at h
    obtain ⟨v, _, h⟩ := h
    split at h
    · rw [Option.map_eq_some_iff] at h; obtain ⟨v, _, rfl⟩ := h; exact ⟨v, rfl⟩
    · cases h
  case convert s d x =>
    simp only [Option.bind_eq_some_iff, Option.map_eq_some_iff] at h
    obtain ⟨v, _, u, hu, rfl⟩ := h
    have hu' : ∃ v' r, aConv P H s d v' = some r ∧ u.2 = r.2 := ⟨v, u, hu, rfl⟩
    clear hu
    obtain ⟨v', u', hu, hu2⟩ := hu'
    refine ⟨u.1, ?_⟩
    rw [hu2]
    suffices h : u'.2 = H by rw [h]
    unfold aConv at hu
    simp only [Option.bind_eq_some_iff] at hu
    obtain ⟨us, _, ud, hud, hu⟩ := hu
    rw [hud] at ho
    split at hu
    · cases hu; rfl
    · cases hu; rfl
    · simp at ho
    · simp only [Option.bind_eq_some_iff] at hu
      obtain ⟨ue, _, hu⟩ := hu
      split at hu
      · cases hu; rfl
      · simp only [Option.bind_eq_some_iff, Option.map_eq_some_iff] at hu
        obtain ⟨_, _, _, _, rfl⟩ := hu; rfl
      · cases hu
    · cases hu
  case call c =>
    obtain ⟨callee, args, ats⟩ := c
    cases callee <;> simp only [Bool.false_eq_true] at ho
    rename_i b
    simp only [Option.bind_eq_some_iff, Option.map_eq_some_iff] at h
    obtain ⟨vs, _, u, hu, rfl⟩ := h
    cases b <;> simp only [Bool.false_eq_true] at ho <;> unfold aBuiltin at hu <;> split at hu <;> simp_all only [reduceCtorEq] <;>
      (simp only [Option.bind_eq_some_iff, Option.map_eq_some_iff] at hu) <;>
      first
        | (obtain ⟨_, _, _, _, rfl⟩ := hu; exact ⟨_, rfl⟩)
        | (obtain ⟨_, _, _, _, _, _, rfl⟩ := hu; exact ⟨_, rfl⟩)
        | (cases hu; done)
  all_goals
    simp only [Option.bind_eq_some_iff, Option.map_eq_some_iff] at h
    first
      | (obtain ⟨_, _, _, _, rfl⟩ := h; exact ⟨_, rfl⟩)
      | (obtain ⟨_, _, _, _, _, _, rfl⟩ := h; exact ⟨_, rfl⟩)
      | (obtain ⟨_, _, _, _, _, _, _, _, _, _, rfl⟩ := h; exact ⟨_, rfl⟩)

def tmpsOf (xs : List Operand) : List Tmp := xs.filterMap fun | .tmp t => some t | _ => none

theorem aeval_congr {x : Operand} (h : ∀ t, x = .tmp t → fr.get t = fr'.get t) : aeval fr x = aeval fr' x := by
  cases x <;> simp only [aeval]
  exact h _ rfl

theorem evalL_congr : ∀ {xs : List Operand}, (∀ x ∈ xs, aeval fr x = aeval fr' x) → evalL fr xs = evalL fr' xs
  | [], _ => rfl
  | x :: xs, h => by simp only [evalL, h x (List.mem_cons_self ..), evalL_congr (xs := xs) fun y hy => h y (List.mem_cons_of_mem _ hy)]

theorem evalParts_congr : ∀ {xs : List (Nat × Operand)}, (∀ x ∈ xs, aeval fr x.2 = aeval fr' x.2) → evalParts fr xs = evalParts fr' xs
  | [], _ => rfl
  | (i, x) :: xs, h => by simp only [evalParts, h (i, x) (List.mem_cons_self ..), evalParts_congr (xs := xs) fun y hy => h y (List.mem_cons_of_mem _ hy)]

set_option maxHeartbeats 4000000 in
theorem aop0_congr {o : Oper} (h : ∀ x ∈ o.op.operands, aeval fr x = aeval fr' x) : aop0 P fr H o = aop0 P fr' H o := by
  obtain ⟨dst, op, type, pos, after, guard⟩ := o
  unfold aop0
  cases op <;> simp only [Op.operands] at h <;> simp only
  case build t ps =>
    rw [evalParts_congr (fr' := fr') fun x hx => h x.2 (by simp only [List.mem_toArray, List.mem_map]; exact ⟨x, hx, rfl⟩)]
  case buildSlice t n ps =>
    rw [evalParts_congr (fr' := fr') fun x hx => h x.2 (by simp only [List.mem_toArray, List.mem_map]; exact ⟨x, hx, rfl⟩)]
  case makeFunc f a b =>
    rw [evalL_congr (xs := a.toList) (fr' := fr') fun x hx => h x (by simp at hx ⊢; exact .inl hx), evalL_congr (xs := b.toList) (fr' := fr') fun x hx => h x (by simp at hx ⊢; exact .inr hx)]
  case makeMap t r => cases r <;> simp_all
  case slice t x lo hi mx => cases lo <;> cases hi <;> cases mx <;> simp_all
  case call c =>
    obtain ⟨callee, args, ats⟩ := c
    rw [evalL_congr (xs := args.toList) (fr' := fr') fun x hx => h x (by simp [Call.operands] at hx ⊢; exact .inr hx)]
    cases callee with
    | builtin b => rfl
    | value f => simp only [h f (by simp [Call.operands])]
    | invoke rv m => simp only [h rv (by simp [Call.operands])]
  all_goals (first | rfl | (simp_all; done))


theorem ro_valX {o : Oper} {q : XRes} (ho : roOp P o.op = true) (h : aopX P fr H o = some q) : ∃ v, q.2 = .val v H := by
  obtain ⟨dst, op, type, pos, after, guard⟩ := o
  unfold aopX at h
  cases op <;> simp only [roOp, Bool.false_eq_true] at ho <;> (try simp only at h) <;> (try (cases h; done))
  case nilCheck x =>
    simp only [Option.bind_eq_some_iff] at h
    obtain ⟨v, _, h⟩ := h
    split at h <;> cases h <;> exact ⟨_, rfl⟩
  case convert s d x =>
    simp only [Option.bind_eq_some_iff, Option.map_eq_some_iff] at h
    obtain ⟨v, _, u, hu, rfl⟩ := h
    refine ⟨u.2.1, ?_⟩
    suffices h : u.2.2 = H by simp only [vh, h]
    unfold xConv at hu
    simp only [Option.bind_eq_some_iff] at hu
    obtain ⟨us, _, ud, hud, hu⟩ := hu
    rw [hud] at ho
    split at hu
    · cases hu; rfl
    · cases hu; rfl
    · simp at ho
    · simp only [Option.bind_eq_some_iff] at hu
      obtain ⟨ue, _, hu⟩ := hu
      split at hu <;> first
        | (cases hu; done)
        | (obtain ⟨_, _, rfl⟩ := Option.map_eq_some_iff.1 hu; rfl)
    · cases hu
  case call c =>
    obtain ⟨callee, args, ats⟩ := c
    cases callee <;> simp only [Bool.false_eq_true, reduceCtorEq] at ho h
    rename_i b
    simp only [Option.bind_eq_some_iff, Option.map_eq_some_iff] at h
    obtain ⟨vs, _, u, hu, rfl⟩ := h
    cases b <;> simp only [Bool.false_eq_true] at ho <;> unfold xBuiltin at hu <;> split at hu <;> simp_all only [reduceCtorEq] <;>
      (simp only [Option.bind_eq_some_iff, Option.map_eq_some_iff] at hu) <;>
      first
        | (obtain ⟨_, _, rfl⟩ := hu; exact ⟨_, rfl⟩)
        | (obtain ⟨_, _, _, _, rfl⟩ := hu; exact ⟨_, rfl⟩)
        | (cases hu; done)
  all_goals
    simp only [Option.bind_eq_some_iff, Option.map_eq_some_iff] at h
    first
      | (obtain ⟨_, _, _, _, rfl⟩ := h; exact ⟨_, rfl⟩)
      | (obtain ⟨_, _, _, _, _, _, rfl⟩ := h; exact ⟨_, rfl⟩)
      | (obtain ⟨_, _, _, _, _, _, _, _, _, _, rfl⟩ := h; exact ⟨_, rfl⟩)

theorem optX_congr {x : Option Operand} (h : ∀ y, x = some y → aeval fr y = aeval fr' y) : optX fr x = optX fr' x := by
  cases x with
  | none => rfl
  | some y => simp only [optX, h y rfl]

theorem aopX_congr {o : Oper} (h : ∀ x ∈ o.op.operands, aeval fr x = aeval fr' x) : aopX P fr H o = aopX P fr' H o := by
  obtain ⟨dst, op, type, pos, after, guard⟩ := o
  unfold aopX
  cases op <;> simp only [Op.operands] at h <;> simp only
  case slice t x lo hi mx =>
    rw [h x (by simp), optX_congr (fr' := fr') fun y hy => h y (by subst hy; simp), optX_congr (x := hi) (fr' := fr') fun y hy => h y (by subst hy; simp), optX_congr (x := mx) (fr' := fr') fun y hy => h y (by subst hy; simp)]
  case call c =>
    obtain ⟨callee, args, ats⟩ := c
    cases callee with
    | builtin b => simp only; rw [evalL_congr (xs := args.toList) (fr' := fr') fun x hx => h x (by simp [Call.operands] at hx ⊢; exact hx)]
    | value f => rfl
    | invoke rv m => rfl
  all_goals (first | rfl | (simp_all; done))

theorem ro_val {o : Oper} {q : Res} (ho : roOp P o.op = true) (h : aop P fr H o = some q) : ∃ v, q = .val v H := by
  obtain ⟨p, h, _⟩ := aop_inv h
  unfold aopC at h
  split at h
  · rename_i r hr; cases h; exact ro_val0 ho hr
  · exact ro_valX ho h

theorem aopC_congr {o : Oper} (h : ∀ x ∈ o.op.operands, aeval fr x = aeval fr' x) : aopC P fr H o = aopC P fr' H o := by
  unfold aopC; rw [aop0_congr h, aopX_congr h]

theorem aop_congr {o : Oper} (h : ∀ x ∈ o.op.operands, aeval fr x = aeval fr' x) : aop P fr H o = aop P fr' H o := by
  unfold aop; rw [aopC_congr h]

end
end Go.AM
