/- THE ABSTRACT MACHINE, 8: the operations are sound, part 5: numbers, texts, sameness, conversions. -/
import Derived.Test.YtdeoahhofhmgfaaAmSnd4
namespace Go.AM
open Go.RowKit
section
variable {B : Nat} {ρ : Env} {H : Heap} {w : World} {P : Program}

def AeqOk (P : Program) (ρ : Env) (eq : TypeId → AV → AV → Option Bool) (d : Nat) : Prop :=
  ∀ (t : TypeId) (a b : AV) (r : Bool) (x y : Value) (w : World), Rel ρ a x → Rel ρ b y → eq t a b = some r → (Op.equalIn d t x y).run P w = .ok r w

theorem aeqF_sound {eq : TypeId → AV → AV → Option Bool} {d : Nat} (he : AeqOk P ρ eq d) {xs ys : List AV} {xs' ys' : Array Value} (hx : RelL ρ xs xs'.toList) (hy : RelL ρ ys ys'.toList) :
    ∀ {fs : List Field} {r : Bool}, aeqF P eq xs ys fs = some r → (Op.eqFields d xs' ys' fs).run P w = .ok r w
  | [], r, h => by simp [aeqF] at h; subst h; simp [Op.eqFields]
  | f :: fs, r, h => by
    simp only [aeqF] at h
    simp only [Op.eqFields]
    cases hn : f.name == "_" with
    | true =>
      simp only [hn, cond_true] at h
      rw [if_neg (by simpa using hn)]
      exact aeqF_sound he hx hy h
    | false =>
      simp only [hn, cond_false] at h
      rw [if_pos (by simpa using hn)]
      cases h1 : apart P f.type xs f.offset with
      | none => simp [h1] at h
      | some a =>
        cases h2 : apart P f.type ys f.offset with
        | none => simp [h1, h2] at h
        | some b =>
          cases h3 : eq f.type a b with
          | none => simp [h1, h2, h3] at h
          | some q =>
            simp only [h1, h2, h3, Option.bind_some] at h
            obtain ⟨x, hx1, hx2⟩ := apart_sound (w := w) h1 hx
            obtain ⟨y, hy1, hy2⟩ := apart_sound (w := w) h2 hy
            have h4 := he f.type a b q x y w hx2 hy2 h3
            simp only [Sem.run_bind, hx1, hy1, h4, Result.andThen_ok]
            cases q with
            | true => simp only [cond_true] at h; simpa using aeqF_sound he hx hy h
            | false => simp only [cond_false, Option.some.injEq] at h; subst h; simp

theorem aeqN_sound {eq : TypeId → AV → AV → Option Bool} {d : Nat} (he : AeqOk P ρ eq d) {e n : Nat} {xs ys : List AV} {xs' ys' : Array Value} (hx : RelL ρ xs xs'.toList) (hy : RelL ρ ys ys'.toList) :
    ∀ {k i : Nat} {r : Bool}, aeqN P eq e n xs ys k i = some r →
      ((do for i in List.range' i k do
            if !(← Op.equalIn d e (← part e xs' (i * n)) (← part e ys' (i * n))) then return false
           pure true : Sem Bool)).run P w = .ok r w
  | 0, i, r, h => by simp [aeqN] at h; subst h; simp
  | k + 1, i, r, h => by
    simp only [aeqN] at h
    cases h1 : apart P e xs (i * n) with
    | none => simp [h1] at h
    | some a =>
      cases h2 : apart P e ys (i * n) with
      | none => simp [h1, h2] at h
      | some b =>
        cases h3 : eq e a b with
        | none => simp [h1, h2, h3] at h
        | some q =>
          simp only [h1, h2, h3, Option.bind_some] at h
          obtain ⟨x, hx1, hx2⟩ := apart_sound (w := w) h1 hx
          obtain ⟨y, hy1, hy2⟩ := apart_sound (w := w) h2 hy
          have h4 := he e a b q x y w hx2 hy2 h3
          cases q with
          | true =>
            simp only [cond_true] at h
            have := aeqN_sound he hx hy h
            simpa [List.range'_succ, hx1, hy1, h4] using this
          | false =>
            simp only [cond_false, Option.some.injEq] at h; subst h
            simp [List.range'_succ, hx1, hy1, h4]

theorem aeq_sound : ∀ (d : Nat), AeqOk P ρ (aeq P d) d := by
  intro d
  induction d with
  | zero => intro t a b r x y w _ _ h; simp [aeq] at h
  | succ d ih =>
    intro t a b r x y w ha hb h
    unfold aeq at h
    cases hu : P.underlying t with
    | none => simp [hu] at h
    | some u =>
      simp only [hu, Option.bind_some] at h
      split at h
      · simp only [Rel] at ha hb; subst ha; subst hb; cases h; simp [Op.equalIn, run_underlying hu]
      · rename_i k0 k a k' b
        simp only [Rel] at ha hb; subst ha; subst hb
        by_cases hk : k = k'
        · simp [hk] at h; subst h; simp [Op.equalIn, run_underlying hu, hk]
        · simp [hk] at h
      · simp only [Rel] at ha hb; subst ha; subst hb; cases h
        rw [run_equalIn_string w d t _ _ hu, eqB_eq, ByteArray.toList_eq, ByteArray.toList_eq]
      · simp only [Rel] at ha hb; subst ha; subst hb; cases h; simp [Op.equalIn, run_underlying hu]
      · simp only [Rel] at ha hb; obtain ⟨_, _, rfl⟩ := hb; subst ha; cases h; simp [Op.equalIn, run_underlying hu]
      · simp only [Rel] at ha hb; obtain ⟨_, _, rfl⟩ := ha; subst hb; cases h; simp [Op.equalIn, run_underlying hu]
      · rename_i e i a j b
        simp only [Rel] at ha hb
        obtain ⟨e1, he1, rfl⟩ := ha
        obtain ⟨e2, he2, rfl⟩ := hb
        cases hij : Nat.beq i j with
        | false => simp [hij] at h
        | true =>
          have := Nat.eq_of_beq_eq_true hij
          subst this
          have e12 : e1 = e2 := by rw [he1] at he2; exact Option.some.inj he2
          subst e12
          simp only [hij, cond_true] at h
          cases hi : P.info? e with
          | none => simp [hi] at h
          | some inf =>
            simp only [hi, Option.bind_some] at h
            cases hz : Nat.beq inf.size 0 with
            | true => simp [hz] at h
            | false =>
              simp [hz] at h
              subst h
              have hne := Nat.ne_of_beq_eq_false hz
              simp only [Op.equalIn, Sem.run_bind, run_underlying hu, Result.andThen_ok, sizeOf_run hi]
              rw [if_pos hne]
              simp [sameAddr]
              rw [Bool.eq_iff_iff]; simp
      · rename_i fs xs ys
        simp only [Rel] at ha hb
        obtain ⟨xs', rfl, hx⟩ := ha
        obtain ⟨ys', rfl, hy⟩ := hb
        cases hp : P.stoodInHeld t with
        | true => simp [hp] at h
        | false =>
          simp only [hp, cond_false] at h
          have hf : P.fieldsOf t = fs := by unfold Program.fieldsOf; rw [hu]
          rw [run_equalIn_struct w d t xs' ys' (by rw [hf]; exact hu) hp, hf]
          exact aeqF_sound ih hx hy h
      · rename_i n e xs ys
        simp only [Rel] at ha hb
        obtain ⟨xs', rfl, hx⟩ := ha
        obtain ⟨ys', rfl, hy⟩ := hb
        cases hi : P.info? e with
        | none => simp [hi] at h
        | some inf =>
          simp only [hi, Option.bind_some] at h
          have := aeqN_sound (w := w) ih hx hy h
          simp only [Op.equalIn, Sem.run_bind, run_underlying hu, Result.andThen_ok, sizeOf_run hi]
          rw [Std.Legacy.Range.forIn_eq_forIn_range']
          simpa [Std.Legacy.Range.size] using this
      all_goals
        first
          | (cases h; done)
          | (simp only [Rel] at ha hb
             first
               | (subst ha; subst hb; cases h; simp [Op.equalIn, run_underlying hu]; done)
               | (subst ha; obtain ⟨_, _, _, rfl, _⟩ := hb; cases h; simp [Op.equalIn, run_underlying hu]; done)
               | (subst ha; obtain ⟨_, _, rfl, _⟩ := hb; cases h; simp [Op.equalIn, run_underlying hu]; done)
               | (subst ha; obtain ⟨_, _, rfl⟩ := hb; cases h; simp [Op.equalIn, run_underlying hu]; done)
               | (subst ha; obtain ⟨_, rfl, _⟩ := hb; cases h; simp [Op.equalIn, run_underlying hu]; done)
               | (subst hb; obtain ⟨_, _, _, rfl, _⟩ := ha; cases h; simp [Op.equalIn, run_underlying hu]; done)
               | (subst hb; obtain ⟨_, _, rfl, _⟩ := ha; cases h; simp [Op.equalIn, run_underlying hu]; done)
               | (subst hb; obtain ⟨_, _, rfl⟩ := ha; cases h; simp [Op.equalIn, run_underlying hu]; done)
               | (subst hb; obtain ⟨_, rfl, _⟩ := ha; cases h; simp [Op.equalIn, run_underlying hu]; done))

theorem eqGuard_ok {op : BinOp} {t : TypeId} {ox oy : Operand} {a b : AV} {x y : Value} (ha : Rel ρ a x) (hb : Rel ρ b y)
    (h1 : ∀ cs ds, a = .agg cs → b = .agg ds → P.eqGuardType P.depth t = false) (h2 : a = .nilIface → b = .nilIface → (isConstB ox || isConstB oy) = true) :
    (eqGuard op t ox oy x y).run P w = .ok () w := by
  have hagg : ∀ xs ys, P.eqGuardType P.depth t = false → (eqGuard op t ox oy (.agg xs) (.agg ys)).run P w = .ok () w := by
    intro xs ys h
    cases op <;> first
      | rfl
      | simp [eqGuard, h]
  have hpure : eqGuard op t ox oy x y = pure () → (eqGuard op t ox oy x y).run P w = .ok () w := fun h => by rw [h]; rfl
  cases a with
  | nilIface =>
    simp only [Rel] at ha; subst ha
    cases b with
    | nilIface =>
      simp only [Rel] at hb; subst hb
      have h3 := h2 rfl rfl
      apply hpure
      cases ox with
      | const c => exact eqGuard_nil_constL ..
      | _ =>
        cases oy with
        | const c => exact eqGuard_nil_constR ..
        | _ => simp [isConstB] at h3
    | _ =>
      simp only [Rel, CTy.Rd] at hb
      apply hpure
      first
        | (subst hb; cases op <;> rfl)
        | (obtain ⟨rfl, _⟩ := hb; cases op <;> rfl)
        | (obtain ⟨_, _, _, _, rfl⟩ := hb; cases op <;> rfl)
        | (obtain ⟨_, _, _, _, rfl, _⟩ := hb; cases op <;> rfl)
        | (obtain ⟨_, _, rfl⟩ := hb; cases op <;> rfl)
        | (obtain ⟨_, rfl, _⟩ := hb; cases op <;> rfl)
        | (obtain ⟨_, _, rfl, _⟩ := hb; cases op <;> rfl)
        | (obtain ⟨_, _, _, rfl, _⟩ := hb; cases op <;> rfl)
  | agg cs =>
    simp only [Rel] at ha
    obtain ⟨xs, rfl, _⟩ := ha
    cases b with
    | agg ds =>
      simp only [Rel] at hb
      obtain ⟨ys, rfl, _⟩ := hb
      exact hagg _ _ (h1 cs ds rfl rfl)
    | _ =>
      simp only [Rel, CTy.Rd] at hb
      apply hpure
      first
        | (subst hb; cases op <;> rfl)
        | (obtain ⟨rfl, _⟩ := hb; cases op <;> rfl)
        | (obtain ⟨_, _, _, _, rfl⟩ := hb; cases op <;> rfl)
        | (obtain ⟨_, _, _, _, rfl, _⟩ := hb; cases op <;> rfl)
        | (obtain ⟨_, _, rfl⟩ := hb; cases op <;> rfl)
        | (obtain ⟨_, rfl, _⟩ := hb; cases op <;> rfl)
        | (obtain ⟨_, _, rfl, _⟩ := hb; cases op <;> rfl)
        | (obtain ⟨_, _, _, rfl, _⟩ := hb; cases op <;> rfl)
  | _ =>
    simp only [Rel, CTy.Rd] at ha
    apply hpure
    first
      | (subst ha; cases op <;> rfl)
      | (obtain ⟨rfl, _⟩ := ha; cases op <;> rfl)
        | (obtain ⟨_, _, _, _, rfl⟩ := ha; cases op <;> rfl)
        | (obtain ⟨_, _, _, _, rfl, _⟩ := ha; cases op <;> rfl)
        | (obtain ⟨_, _, rfl⟩ := ha; cases op <;> rfl)
      | (obtain ⟨_, rfl, _⟩ := ha; cases op <;> rfl)
      | (obtain ⟨_, _, rfl, _⟩ := ha; cases op <;> rfl)
      | (obtain ⟨_, _, _, rfl, _⟩ := ha; cases op <;> rfl)

theorem equal_nilIface {t : TypeId} {ms : Array (String × TypeId)} (hu : P.underlying t = some (.interface ms)) : (Op.equal t .nilIface .nilIface).run P w = .ok true w := by
  have h : ∀ d, (Op.equalIn (d + 1) t .nilIface .nilIface).run P w = .ok true w := fun d => by simp [Op.equalIn, run_underlying hu]
  exact h 9999

theorem binOp_eql_any {t : TypeId} {x y : Value} {r : Bool} (hb : binOp .eql t x y = (do pure (.bool (← Op.equal t x y)))) (h : (Op.equal t x y).run P w = .ok r w) : (binOp .eql t x y).run P w = .ok (.bool r) w := by
  rw [hb]; simp only [Sem.run_bind, h, Result.andThen_ok, Sem.run_pure]
theorem binOp_neq_any {t : TypeId} {x y : Value} {r : Bool} (hb : binOp .neq t x y = (do pure (.bool (!(← Op.equal t x y))))) (h : (Op.equal t x y).run P w = .ok r w) : (binOp .neq t x y).run P w = .ok (.bool (!r)) w := by
  rw [hb]; simp only [Sem.run_bind, h, Result.andThen_ok, Sem.run_pure]

theorem aeq_left {d : Nat} {t : TypeId} {a b : AV} (h : a.isX = true) : aeq P d t a b = none := by
  cases d with
  | zero => rfl
  | succ d =>
    unfold aeq
    cases P.underlying t with
    | none => rfl
    | some u => cases a <;> first | (exact Bool.noConfusion h) | (cases u <;> rfl)

theorem aeq_right {d : Nat} {t : TypeId} {a b : AV} (h : b.isX = true) : aeq P d t a b = none := by
  cases d with
  | zero => rfl
  | succ d =>
    unfold aeq
    cases P.underlying t with
    | none => rfl
    | some u => cases b <;> first | (exact Bool.noConfusion h) | (cases u <;> first | rfl | (cases a <;> rfl))

theorem aBin_sound {op : BinOp} {t : TypeId} {ox oy : Operand} {a b v : AV} {x y : Value} (ha : Rel ρ a x) (hb : Rel ρ b y) (h : aBin P op t ox oy a b = some v) :
    ∃ z, ((do eqGuard op t ox oy x y; binOp op t x y) : Sem Value).run P w = .ok z w ∧ Rel ρ v z := by
  have heq := aeq_sound (P := P) (ρ := ρ) Op.maxDepth
  unfold aBin at h
  split at h
  · rename_i k a k' b
    rw [Option.bind_eq_some_iff] at h
    obtain ⟨z, h1, h2⟩ := h
    simp only [Rel] at ha hb; subst ha; subst hb
    exact ⟨z, by simp [eqGuard_at_int, pureOf_run h1], convS_rel h2 ρ⟩
  · rename_i a b
    simp only [Rel] at ha hb; subst ha; subst hb
    have hg : eqGuard op t ox oy (.string ⟨a.toArray⟩) (.string ⟨b.toArray⟩) = pure () := eqGuard_at_string ..
    have hbin : binOp op t (.string ⟨a.toArray⟩) (.string ⟨b.toArray⟩) = Op.stringOp op ⟨a.toArray⟩ ⟨b.toArray⟩ := by cases op <;> rfl
    have hs1 : (⟨a.toArray⟩ : ByteArray).size = a.length := by simp [ByteArray.size]
    have hs2 : (⟨b.toArray⟩ : ByteArray).size = b.length := by simp [ByteArray.size]
    rw [hg, hbin]
    split at h
    · cases hle : Nat.ble (a.length + b.length) 9223372036854775807 with
      | false => rw [hle] at h; cases h
      | true =>
        rw [hle] at h
        simp only [cond_true, Option.some.injEq] at h
        subst h
        have := Nat.le_of_ble_eq_true hle
        refine ⟨.string ⟨(a ++ b).toArray⟩, ?_, by simp [Rel]⟩
        have hnot : ¬ (((⟨a.toArray⟩ : ByteArray).size + (⟨b.toArray⟩ : ByteArray).size : Nat) : Int) > IntKind.i64.max := by
          rw [hs1, hs2, IntKind.max_i64]; omega
        simp only [Op.stringOp, Sem.run_bind, Sem.run_pure, Result.andThen_ok]
        rw [if_neg hnot]
        simp only [Sem.run_pure]
        congr 2
    all_goals first
      | (cases h; done)
      | (cases h; refine ⟨_, by simp only [Op.stringOp, Sem.run_bind, Sem.run_pure, Result.andThen_ok]; rfl, ?_⟩; simp [Rel, eqB_eq, ltB_eq, ByteArray.toList_eq])
  · simp only [Rel] at ha hb; subst ha; subst hb
    cases hc : (isConstB ox || isConstB oy) with
    | false => rw [hc] at h; cases h
    | true =>
      rw [hc] at h
      simp only [cond_true] at h
      have hg := eqGuard_ok (P := P) (w := w) (op := op) (t := t) (ox := ox) (oy := oy) (ρ := ρ) (a := .nilIface) (b := .nilIface) (x := .nilIface) (y := .nilIface) (by simp [Rel]) (by simp [Rel])
        (fun cs ds h1 _ => by cases h1) (fun _ _ => hc)
      cases hu : P.underlying t with
      | none => simp [hu] at h
      | some u =>
        simp only [hu, Option.bind_some] at h
        split at h
        · cases h
          exact ⟨.bool true, by simp only [Sem.run_bind, hg, Result.andThen_ok]; exact binOp_eql_any rfl (equal_nilIface hu), by simp [Rel]⟩
        · cases h
          exact ⟨.bool false, by simp only [Sem.run_bind, hg, Result.andThen_ok]; exact binOp_neq_any rfl (equal_nilIface hu), by simp [Rel]⟩
        · cases h
  · rename_i xs ys
    cases hg0 : P.eqGuardType P.depth t with
    | true => rw [hg0] at h; cases h
    | false =>
      rw [hg0] at h
      simp only [cond_false] at h
      have hg := eqGuard_ok (P := P) (w := w) (op := op) (t := t) (ox := ox) (oy := oy) ha hb (fun _ _ _ _ => hg0) (fun h1 _ => by cases h1)
      simp only [Rel] at ha hb
      have ha' : Rel ρ (.agg xs) x := ha
      have hb' : Rel ρ (.agg ys) y := hb
      obtain ⟨xs', rfl, _⟩ := ha
      obtain ⟨ys', rfl, _⟩ := hb
      split at h
      · rw [Option.map_eq_some_iff] at h
        obtain ⟨r, h1, rfl⟩ := h
        exact ⟨.bool r, by simp only [Sem.run_bind, hg, Result.andThen_ok]; exact binOp_eql_any rfl (heq t _ _ _ _ _ w ha' hb' h1), by simp [Rel]⟩
      · rw [Option.map_eq_some_iff] at h
        obtain ⟨r, h1, rfl⟩ := h
        exact ⟨.bool (!r), by simp only [Sem.run_bind, hg, Result.andThen_ok]; exact binOp_neq_any rfl (heq t _ _ _ _ _ w ha' hb' h1), by simp [Rel]⟩
      · cases h
  · rename_i hn1 hn2 hn3 hn4
    have hg := eqGuard_ok (P := P) (w := w) (op := op) (t := t) (ox := ox) (oy := oy) ha hb (fun cs ds e1 e2 => (hn4 cs ds e1 e2).elim) (fun e1 e2 => (hn3 e1 e2).elim)
    have hb2 : ∀ r : Bool, aeq P Op.maxDepth t a b = some r → binOp .eql t x y = (do pure (.bool (← Op.equal t x y))) ∧ binOp .neq t x y = (do pure (.bool (!(← Op.equal t x y)))) := by
      intro r hr'
      have hsa : a.isX = false := by
        cases hh : a.isX with
        | false => rfl
        | true => rw [aeq_left hh] at hr'; cases hr'
      have hsb : b.isX = false := by
        cases hh : b.isX with
        | false => rfl
        | true => rw [aeq_right hh] at hr'; cases hr'
      clear hr'
      cases a <;> first
        | (exact Bool.noConfusion hsa)
        | (simp only [Rel] at ha <;>
          (first
            | subst ha
            | obtain ⟨_, _, rfl⟩ := ha
            | obtain ⟨_, rfl, _⟩ := ha
            | obtain ⟨_, _, rfl, _⟩ := ha
            | obtain ⟨_, _, _, rfl, _⟩ := ha) <;>
          first
            | exact ⟨rfl, rfl⟩
            | (cases b <;> first
                | (exact Bool.noConfusion hsb)
                | (simp only [Rel] at hb <;>
                  (first
                    | subst hb
                    | obtain ⟨_, _, rfl⟩ := hb
                    | obtain ⟨_, rfl, _⟩ := hb
                    | obtain ⟨_, _, rfl, _⟩ := hb
                    | obtain ⟨_, _, _, rfl, _⟩ := hb) <;>
                  first
                    | exact ⟨rfl, rfl⟩
                    | exact (hn1 _ _ _ _ rfl rfl).elim
                    | exact (hn2 _ _ rfl rfl).elim)))
    split at h
    · rw [Option.map_eq_some_iff] at h
      obtain ⟨r, h1, rfl⟩ := h
      exact ⟨.bool r, by simp only [Sem.run_bind, hg, Result.andThen_ok]; exact binOp_eql_any (hb2 r h1).1 (heq t _ _ _ _ _ w ha hb h1), by simp [Rel]⟩
    · rw [Option.map_eq_some_iff] at h
      obtain ⟨r, h1, rfl⟩ := h
      exact ⟨.bool (!r), by simp only [Sem.run_bind, hg, Result.andThen_ok]; exact binOp_neq_any (hb2 r h1).2 (heq t _ _ _ _ _ w ha hb h1), by simp [Rel]⟩
    · cases h
end
end Go.AM
