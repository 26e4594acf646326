/- THE ABSTRACT MACHINE, 20: it runs. -/
import Derived.Test.YtjlincfpdbiloaaAmRun
set_option linter.unusedSimpArgs false
set_option linter.unusedVariables false
namespace Go.AM
open Go.RowKit

/-- What was taken to be so on the way. -/
abbrev Path := List (Bool × Bool)
def PathOk (p : Path) : Prop := ∀ q ∈ p, q.1 = q.2

theorem PathOk.nil : PathOk [] := fun q hq => by cases hq
theorem PathOk.append {p q : Path} (hp : PathOk p) (hq : PathOk q) : PathOk (p ++ q) := fun x hx => (List.mem_append.1 hx).elim (hp x) (hq x)
theorem PathOk.one (b : Bool) : PathOk [(b, b)] := fun x hx => by rw [List.mem_singleton] at hx; subst hx; rfl

def pre {β : Type} (p : Path) (l : List (Path × β)) : List (Path × β) := match p with
  | [] => l
  | p => l.map fun y => (p ++ y.1, y.2)

theorem pre_mem {β : Type} {p q : Path} {l : List (Path × β)} {b : β} (h : (q, b) ∈ l) : (p ++ q, b) ∈ pre p l := by
  unfold pre
  split
  · exact h
  · exact List.mem_map.2 ⟨(q, b), h, rfl⟩

def bindL {α β : Type} (f : α → Option (List (Path × β))) : List (Path × α) → Option (List (Path × β))
  | [] => some []
  | a :: l => match f a.2 with
    | none => none
    | some x => match l with
      | [] => some (pre a.1 x)
      | l => (bindL f l).map (pre a.1 x ++ ·)

theorem bindL_mem {α β : Type} {f : α → Option (List (Path × β))} : ∀ {l : List (Path × α)} {out : List (Path × β)}, bindL f l = some out → ∀ p a, (p, a) ∈ l → ∃ x, f a = some x ∧ ∀ q b, (q, b) ∈ x → (p ++ q, b) ∈ out
  | [], _, _, p, a, ha => by cases ha
  | (p0, a0) :: l, out, h, p, a, ha => by
    unfold bindL at h
    split at h
    · cases h
    · rename_i x hx
      split at h
      · cases h
        rw [List.mem_singleton] at ha; cases ha
        exact ⟨_, hx, fun q b hb => pre_mem hb⟩
      · rw [Option.map_eq_some_iff] at h
        obtain ⟨y, hy, rfl⟩ := h
        rcases List.mem_cons.1 ha with hh | ha
        · cases hh; exact ⟨x, hx, fun q b hb => List.mem_append_left _ (pre_mem hb)⟩
        · obtain ⟨z, h1, h2⟩ := bindL_mem hy p a ha
          exact ⟨z, h1, fun q b hb => List.mem_append_right _ (h2 q b hb)⟩

/-- One of these. -/
def Hit {β : Type} (l : List (Path × β)) (b : β) : Prop := ∃ p, PathOk p ∧ (p, b) ∈ l

theorem bindL_hit {α β : Type} {f : α → Option (List (Path × β))} {l : List (Path × α)} {out : List (Path × β)} (h : bindL f l = some out) {a : α} (ha : Hit l a) : ∃ x, f a = some x ∧ ∀ b, Hit x b → Hit out b := by
  obtain ⟨p, hp, hm⟩ := ha
  obtain ⟨x, hx, hxo⟩ := bindL_mem h p a hm
  exact ⟨x, hx, fun b ⟨q, hq, hb⟩ => ⟨p ++ q, hp.append hq, hxo q b hb⟩⟩

theorem hit_one {β : Type} (b : β) : Hit [([], b)] b := ⟨[], PathOk.nil, List.mem_singleton.2 rfl⟩

def splits (v : AV) : List (Path × AV) := match v with
  | .sB b => [([(b, true)], .bool true), ([(b, false)], .bool false)]
  | v => [([], v)]

theorem splits_hit (v : AV) : ∃ v', Hit (splits v) v' ∧ v'.un = v.un := by
  unfold splits
  split
  · rename_i b
    cases b
    · exact ⟨.bool false, ⟨_, PathOk.one false, List.mem_cons_of_mem _ (List.mem_singleton.2 rfl)⟩, rfl⟩
    · exact ⟨.bool true, ⟨_, PathOk.one true, List.mem_cons_self ..⟩, rfl⟩
  · exact ⟨v, hit_one v, rfl⟩

def nil1 {α : Type} (l : List α) : List (Path × α) := l.map fun a => ([], a)
theorem nil1_hit {α : Type} {l : List α} {a : α} (h : a ∈ l) : Hit (nil1 l) a := ⟨[], PathOk.nil, List.mem_map.2 ⟨a, h, rfl⟩⟩

abbrev Res1 := XT × Fr × Heap
abbrev Out := Path × Res1
abbrev FOut := Path × AV × Heap
/-- In a round? A loop that has begun? -/
abbrev RC := Bool → Bool → Nat → Code → Fr → Heap → Option (List Out)
abbrev Sum := FuncId → List AV → Heap → Option (List FOut)

section
variable (P : Program) (S : Sum) (rc : RC)

def evF (f : FuncId) (args : List AV) (H : Heap) : Option (List FOut) :=
  match S f args H with
  | some out => some out
  | none => match P.funcs[f]? with
    | none => none
    | some fn => match fn.body with
      | none => none
      | some c => match rc false false (args.length + (fn.ntmps - args.length)) c (initFr args 0 .nil) H with
        | none => none
        | some outs => bindL (fun o : Res1 => match o.1 with
          | .ex _ => none
          | _ => match ares P fn o.2.1 o.2.2 with
            | none => none
            | some v => some [([], v, o.2.2)]) outs

def evY (l : Nat) (args : List AV) (H : Heap) : Option (List (Path × Bool × Heap)) :=
  match H.get l with
  | some (.loop _ _ _ fr0 nt ps as bd) => match setParams nt fr0 ps args with
    | none => none
    | some fr1 => match rc true false nt as fr1 H with
      | none => none
      | some outs => bindL (fun o : Res1 => match o.1 with
        | .nor => match o.2.2.get l with
          | some (.loop .ready pd fn fr0 nt' ps as bd') => match rc true false nt bd o.2.1 (o.2.2.set l (.loop .busy pd fn fr0 nt' ps as bd')) with
            | none => none
            | some outs => bindL (fun q : Res1 => match q.2.2.get l with
              | some (.loop _ _ fn fr0 nt ps as bd) => some [([], q.1.isNor, q.2.2.set l (.loop (bif q.1.isNor then .ready else .done) (jumpOf q.1) fn fr0 nt ps as bd))]
              | _ => none) outs
          | _ => none
        | _ => none) outs
  | _ => none

abbrev ROut := Path × Fr × Heap

/-- What was handed back is put. -/
def putK (n : Nat) (fr : Fr) (dst : Option Tmp) (k : Fr → Heap → Option (List ROut)) (q : AV × Heap) : Option (List ROut) :=
  match aput n fr dst q.1 with
  | none => none
  | some fr' => k fr' q.2

def putV (n : Nat) (fr : Fr) (dst : Option Tmp) (k : Fr → Heap → Option (List ROut)) (v : AV) (H : Heap) : Option (List ROut) :=
  bindL (fun v' => putK n fr dst k (v', H)) (splits v)

/-- An operation that may do more than look. -/
def evOp (n : Nat) (ops : Array Oper) (o : Oper) (k : Fr → Heap → Option (List ROut)) (fr : Fr) (H : Heap) : Option (List ROut) :=
  match aWant ops fr o with
  | none => none
  | some false => putK n fr o.dst k (.tup [], H)
  | some true => match aop P fr H o with
    | none => none
    | some (.val v H') => putV n fr o.dst k v H'
    | some (.opts l) => bindL (putK n fr o.dst k) (nil1 l)
    | some (.call f args) => match evF P S rc f args H with
      | none => none
      | some l => bindL (putK n fr o.dst k) l
    | some (.yield l args) => match evY rc l args H with
      | none => none
      | some l => bindL (fun q : Bool × Heap => putK n fr o.dst k (.bool q.1, q.2)) l

def evO (n : Nat) (ops : Array Oper) : List Nat → Fr → Heap → Option (List ROut)
  | [], fr, H => some [([], fr, H)]
  | i :: rest, fr, H => match ops[i]? with
    | none => none
    | some o => evOp P S rc n ops o (evO n ops rest) fr H

def chk (ops : Array Oper) (fr : Fr) (H : Heap) (js : List Nat) : Bool :=
  js.all fun j => match ops[j]? with
    | none => true
    | some oj => match roVal P ops fr H oj with
      | none => false
      | some v => match oj.dst with
        | none => true
        | some d => match fr.get d with
          | none => false
          | some u => AV.same u v

def evP (n : Nat) (ops : Array Oper) : List St → Fr → Heap → Option (List ROut)
  | [], fr, H => some [([], fr, H)]
  | .ro i :: rest, fr, H => match ops[i]? with
    | none => none
    | some o => match roVal P ops fr H o with
      | none => none
      | some v => putV n fr o.dst (evP n ops rest) v H
  | .loud i js :: rest, fr, H => match ops[i]? with
    | none => none
    | some o => evOp P S rc n ops o (fun fr' H' => bif chk P ops fr' H' js then evP n ops rest fr' H' else none) fr H

def nors (l : Option (List ROut)) : Option (List Out) :=
  match l with
  | none => none
  | some l => some (l.map fun q => (q.1, .nor, q.2.1, q.2.2))

def evR (n : Nat) (g : Operand) (ps : Array Tmp) (as bd : Code) (fr : Fr) (H : Heap) : Option (List Out) :=
  match aeval fr g with
  | none => none
  | some gv => match aCallV P gv [.yld H.next] with
    | some (.call f args) => match evF P S rc f args (H.alloc (.loop .ready none 0 fr n ps.toList as bd)) with
      | none => none
      | some outs => bindL (fun q : AV × Heap => match q.2.get H.next with
        | some (.loop st pd fn fr0 nt ps as bd) => bif st == .busy then none else match pd with
          | none => some [([], .nor, fr, q.2.set H.next (.loop .exhausted pd fn fr0 nt ps as bd))]
          | some c => rc false false n c fr (q.2.set H.next (.loop .exhausted pd fn fr0 nt ps as bd))
        | _ => none) outs
    | _ => none

def unblock (id : Nat) (o : Out) : Out := match o.2.1 with
  | .ex id' => bif Nat.beq id' id then (o.1, .nor, o.2.2) else o
  | _ => o

def both (b : Bool) (x y : Option (List Out)) : Option (List Out) :=
  match x, y with
  | some x, some y => some (pre [(b, true)] x ++ pre [(b, false)] y)
  | _, _ => none

def thenC (o : List Out) (k : Fr → Heap → Option (List Out)) : Option (List Out) :=
  bindL (fun o : Res1 => match o.1 with
    | .nor => k o.2.1 o.2.2
    | _ => some [([], o)]) o

def stepC : RC := fun inR begun n c fr H =>
  match begun with
  | true => match rc inR false n c fr H with
    | none => none
    | some outs => thenC outs (rc inR true n c)
  | false => match c with
    | .skip => some [([], .nor, fr, H)]
    | .label _ => some [([], .nor, fr, H)]
    | .exit id => some [([], .ex id, fr, H)]
    | .ret => some [([], .ret, fr, H)]
    | .seq x y => match rc inR false n x fr H with
      | none => none
      | some outs => thenC outs (rc inR false n y)
    | .cond x c d => match aeval fr x with
      | some (.bool t) => rc inR false n (bif t then c else d) fr H
      | some (.sB b) => both b (rc inR false n c fr H) (rc inR false n d fr H)
      | _ => none
    | .block id c => match rc inR false n c fr H with
      | none => none
      | some outs => some (outs.map (unblock id))
    | .loop c => match rc inR false n c fr H with
      | none => none
      | some outs => thenC outs (rc inR true n c)
    | .region _ ops false => nors (evO P S rc n ops (List.range ops.size) fr H)
    | .region _ ops true => match plan P ops with
      | none => none
      | some pl => nors (evP P S rc n ops pl fr H)
    | .rangeFunc g ps as bd => match inR with
      | true => none
      | false => evR P S rc n g ps as bd fr H
    | _ => none

def evC : Nat → RC
  | 0 => fun _ _ _ _ _ _ => none
  | k + 1 => stepC P S (evC k)

def run (k : Nat) (f : FuncId) (args : List AV) (H : Heap) : Option (List FOut) := evF P S (evC P S k) f args H
end

/-! ### What it ends in is what the code does -/
section
variable {P : Program} {B : Nat} {r : Option Nat} {n : Nat} {fr : Fr} {H : Heap} {S : Sum} {rc : RC} {ops : Array Oper}

def OutP (outs : List Out) : Post := fun x fr' H' => Hit outs (x, fr', H')

structure Sound (P : Program) (B : Nat) (rc : RC) : Prop where
  c : ∀ inR n c fr H outs, rc inR false n c fr H = some outs → ∀ r : Option Nat, (inR = false → r = none) → WC P B r n c fr H (OutP outs)
  l : ∀ inR n c fr H outs, rc inR true n c fr H = some outs → ∀ r : Option Nat, (inR = false → r = none) → WL P B r n c fr H (OutP outs)

def SumOk (P : Program) (B : Nat) (S : Sum) : Prop := ∀ f args H outs, S f args H = some outs → WF P B f args H fun v H' => Hit outs (v, H')

theorem WC.condS {c : Operand} {x y : Code} {b : Bool} {Q : Post} (hc : aeval fr c = some (.sB b)) (h : WC P B r n (bif b then x else y) fr H Q) : WC P B r n (.cond c x y) fr H Q := by
  intro M ρ w a h1 h2 h3 h4
  have hv := aeval_sound h2 hc
  simp only [Rel] at hv
  refine wpIn_cond hv ?_
  cases b
  · exact h M ρ w a h1 h2 h3 h4
  · exact h M ρ w a h1 h2 h3 h4

theorem WL.mono {c : Code} {Q Q' : Post} (h : WL P B r n c fr H Q) (hq : ∀ x fr H, Q x fr H → Q' x fr H) : WL P B r n c fr H Q' :=
  fun M ρ w a h1 h2 h3 h4 b k cs hb => let ⟨e, a', w', ⟨x, fr', H', ρ', g1, g2, g3⟩, h⟩ := h M ρ w a h1 h2 h3 h4 b k cs hb; ⟨e, a', w', ⟨x, fr', H', ρ', g1, hq _ _ _ g2, g3⟩, h⟩

theorem WO.mono {l : List Nat} {Q Q' : Fr → Heap → Prop} (h : WO P B r n ops l fr H Q) (hq : ∀ fr H, Q fr H → Q' fr H) : WO P B r n ops l fr H Q' :=
  fun M ρ w a h1 h2 h3 h4 => wpOpsIn_mono (fun e a' w' ⟨x, fr', H', ρ', g1, g2, g3⟩ => ⟨x, fr', H', ρ', g1, ⟨g2.1, hq _ _ g2.2⟩, g3⟩) l a w (h M ρ w a h1 h2 h3 h4)

theorem WD.mono {an : Nat → Nat} {lA : Nat} {Q Q' : Fr → Heap → Prop} (h : WD P B r n ops an lA fr H Q) (hq : ∀ fr H, Q fr H → Q' fr H) : WD P B r n ops an lA fr H Q' :=
  fun fuel M ρ w a lR hc hf Qr hQr => h fuel M ρ w a lR hc hf Qr fun e a' w' ⟨x, fr', H', ρ', g1, g2, g3⟩ => hQr e a' w' ⟨x, fr', H', ρ', g1, ⟨g2.1, hq _ _ g2.2⟩, g3⟩

theorem WY.mono {i : Nat} {args : List AV} {Q Q' : Bool → Heap → Prop} (h : WY P B i args H Q) (hq : ∀ b H, Q b H → Q' b H) : WY P B i args H Q' :=
  fun ρ w e xs r h1 h2 h3 => let ⟨f, tmps, as, bd, g1, g2⟩ := h ρ w e xs r h1 h2 h3
    ⟨f, tmps, as, bd, g1, RoundIn.mono g2 fun en w' ⟨b, H', ρ', k1, k2, k3⟩ => ⟨b, H', ρ', k1, hq _ _ k2, k3⟩⟩

theorem evF_sound (hS : SumOk P B S) (hrc : Sound P B rc) {f : FuncId} {args : List AV} {outs : List FOut} (h : evF P S rc f args H = some outs) : WF P B f args H fun v H' => Hit outs (v, H') := by
  unfold evF at h
  split at h
  · rename_i out hs; cases h; exact hS f args H _ hs
  · split at h
    · cases h
    · rename_i fn hf
      split at h
      · cases h
      · rename_i c hb
        split at h
        · cases h
        · rename_i outs1 hc
          refine WF.body hf hb ((hrc.c _ _ _ _ _ _ hc none fun _ => rfl).mono ?_)
          intro x fr' H' hm
          obtain ⟨y, hy, hyo⟩ := bindL_hit h hm
          cases x with
          | ex id => simp at hy
          | nor =>
            simp only at hy
            split at hy
            · cases hy
            · rename_i v hv; cases hy; exact ⟨.inl rfl, v, hv, hyo _ (hit_one _)⟩
          | ret =>
            simp only at hy
            split at hy
            · cases hy
            · rename_i v hv; cases hy; exact ⟨.inr rfl, v, hv, hyo _ (hit_one _)⟩

theorem evY_sound (hrc : Sound P B rc) {l : Nat} {args : List AV} {outs : List (Path × Bool × Heap)} (h : evY rc l args H = some outs) : WY P B l args H fun b H' => Hit outs (b, H') := by
  unfold evY at h
  split at h
  · rename_i st pd fn fr0 nt ps as bd hi
    split at h
    · cases h
    · rename_i fr1 hp
      split at h
      · cases h
      · rename_i outs1 hc
        refine WY.round hi hp fun lr => (hrc.c _ _ _ _ _ _ hc (some lr) fun hh => by cases hh).mono ?_
        intro x fr2 H2 hm
        obtain ⟨y, hy, hyo⟩ := bindL_hit h hm
        cases x with
        | ex id => simp at hy
        | ret => simp at hy
        | nor =>
          simp only at hy
          split at hy
          · rename_i pd2 fn2 fr02 nt2 ps2 as2 bd2 hi2
            refine ⟨rfl, pd2, fn2, fr02, nt2, ps2, as2, bd2, hi2, ?_⟩
            split at hy
            · cases hy
            · rename_i outs2 hc2
              refine (hrc.c _ _ _ _ _ _ hc2 (some lr) fun hh => by cases hh).mono ?_
              intro x fr3 H3 hm3
              obtain ⟨z, hz, hzo⟩ := bindL_hit hy hm3
              simp only at hz
              split at hz
              · rename_i st3 pd3 fn3 fr03 nt3 ps3 as3 bd3 hi3
                cases hz
                exact ⟨st3, pd3, fn3, fr03, nt3, ps3, as3, bd3, hi3, hyo _ (hzo _ (hit_one _))⟩
              · cases hz
          · cases hy
  · cases h

theorem putK_some {dst : Option Tmp} {k : Fr → Heap → Option (List ROut)} {q : AV × Heap} {outs : List ROut} (h : putK n fr dst k q = some outs) : ∃ fr', aput n fr dst q.1 = some fr' ∧ k fr' q.2 = some outs := by
  unfold putK at h
  split at h
  · cases h
  · rename_i fr' hp; exact ⟨fr', hp, h⟩

theorem putV_some {dst : Option Tmp} {k : Fr → Heap → Option (List ROut)} {v : AV} {outs : List ROut} (h : putV n fr dst k v H = some outs) : ∃ v' fr' x, v'.un = v.un ∧ aput n fr dst v' = some fr' ∧ k fr' H = some x ∧ ∀ b, Hit x b → Hit outs b := by
  obtain ⟨v', hv, hun⟩ := splits_hit v
  obtain ⟨x, hx, hxo⟩ := bindL_hit h hv
  obtain ⟨fr', h1, h2⟩ := putK_some hx
  exact ⟨v', fr', x, hun, h1, h2, hxo⟩

def FOutP (outs : List ROut) : Fr → Heap → Prop := fun fr' H' => Hit outs (fr', H')

theorem evO_sound (hS : SumOk P B S) (hrc : Sound P B rc) : ∀ (l : List Nat) (fr : Fr) (H : Heap) (outs : List ROut), evO P S rc n ops l fr H = some outs → WO P B r n ops l fr H (FOutP outs)
  | [], fr, H, outs, h => by
    simp only [evO] at h; cases h; exact WO.nil (hit_one _)
  | i :: rest, fr, H, outs, h => by
    unfold evO at h
    split at h
    · cases h
    · rename_i o ho
      have ih := evO_sound hS hrc rest
      unfold evOp at h
      split at h
      · cases h
      · rename_i hw
        obtain ⟨fr', hp, hk⟩ := putK_some h
        exact WO.skipped ho hw hp (ih _ _ _ hk)
      · rename_i hw
        split at h
        · cases h
        · rename_i v H' he
          obtain ⟨v', fr', x, hun, hp, hk, hxo⟩ := putV_some h
          exact WO.val' ho hw he hun hp ((ih _ _ _ hk).mono fun _ _ hm => hxo _ hm)
        · rename_i l he
          refine WO.opts ho hw he fun q hq => ?_
          obtain ⟨x, hx, hxo⟩ := bindL_hit h (nil1_hit hq)
          obtain ⟨fr', hp, hk⟩ := putK_some hx
          exact ⟨fr', hp, (ih _ _ _ hk).mono fun _ _ hm => hxo _ hm⟩
        · rename_i f args he
          split at h
          · cases h
          · rename_i l hl
            refine WO.call ho hw he ((evF_sound hS hrc hl).mono fun v H' hm => ?_)
            obtain ⟨x, hx, hxo⟩ := bindL_hit h hm
            obtain ⟨fr', hp, hk⟩ := putK_some hx
            exact ⟨fr', hp, (ih _ _ _ hk).mono fun _ _ hm => hxo _ hm⟩
        · rename_i l args he
          split at h
          · cases h
          · rename_i l hl
            refine WO.yield ho hw he ((evY_sound hrc hl).mono fun v H' hm => ?_)
            obtain ⟨x, hx, hxo⟩ := bindL_hit h hm
            obtain ⟨fr', hp, hk⟩ := putK_some hx
            exact ⟨fr', hp, (ih _ _ _ hk).mono fun _ _ hm => hxo _ hm⟩

theorem chk_ok {fr : Fr} {H : Heap} {js : List Nat} (h : chk P ops fr H js = true) {j : Nat} (hj : j ∈ js) {oj : Oper} (ho : ops[j]? = some oj) : ∃ v v' : AV, roVal P ops fr H oj = some v ∧ v'.un = v.un ∧ ∀ d, oj.dst = some d → fr.get d = some v' := by
  unfold chk at h
  rw [List.all_eq_true] at h
  have := h j hj
  rw [ho] at this
  simp only at this
  split at this
  · cases this
  · rename_i v hv
    refine ⟨v, v, hv, rfl, fun d hd => ?_⟩
    rw [hd] at this
    simp only at this
    split at this
    · cases this
    · rename_i u hu; rw [hu, AV.same_eq this]

theorem evP_sound (hS : SumOk P B S) (hrc : Sound P B rc) {an : List Nat} (hA : Anc ops fun i => an.getD i 0) : ∀ (pl : List St) (lA : Nat) (fr : Fr) (H : Heap) (outs : List ROut),
    okPlan P ops an lA pl = true → Down ops lA → evP P S rc n ops pl fr H = some outs → WD P B r n ops (fun i => an.getD i 0) lA fr H (FOutP outs)
  | [], lA, fr, H, outs, hok, hd, h => by
    simp only [evP] at h; cases h
    simp only [okPlan, List.all_eq_true, List.mem_range] at hok
    exact WD.done hA (fun k hk => hok k hk) (hit_one _)
  | .ro i :: rest, lA, fr, H, outs, hok, hd, h => by
    simp only [okPlan, Bool.and_eq_true, Bool.not_eq_true'] at hok
    obtain ⟨⟨⟨⟨k1, k2⟩, k3⟩, k4⟩, k5⟩ := hok
    unfold evP at h
    split at h
    · cases h
    · rename_i o ho
      rw [ho] at k4
      have hin : ∀ e ∈ o.after, Region.binds .any e = true → lA.testBit e.on = true := fun e he hb => subM_bit k2 (hA.back i o ho e he hb).2
      split at h
      · cases h
      · rename_i v hv
        obtain ⟨v', fr', x, hun, hp, hk, hxo⟩ := putV_some h
        exact WD.ro hA ho hd k1 k4 (dstOk_ok k3) hv hun hp ((evP_sound hS hrc hA rest _ _ _ _ k5 (hd.add ho hin) hk).mono fun _ _ hm => hxo _ hm)
  | .loud i js :: rest, lA, fr, H, outs, hok, hd, h => by
    simp only [okPlan, Bool.and_eq_true, Bool.not_eq_true', List.all_eq_true, List.mem_range] at hok
    obtain ⟨⟨⟨⟨⟨k1, k2⟩, k3⟩, k4⟩, k5⟩, k6⟩ := hok
    unfold evP at h
    split at h
    · cases h
    · rename_i o ho
      have hin : ∀ e ∈ o.after, Region.binds .any e = true → lA.testBit e.on = true := fun e he hb => subM_bit k2 (hA.back i o ho e he hb).2
      have hd' := hd.add ho hin
      have hone : Alone ops lA i := by
        intro k ok hk hb hki
        have := k4 k (Array.getElem?_eq_some_iff.1 hk).1
        simp only [Bool.or_eq_true, Bool.not_eq_true'] at this
        have hs : subM (an.getD k 0) lA = false := by
          rcases this with (h | h) | h
          · unfold inM at h; rw [hb] at h; cases h
          · exact absurd (nbeq h) hki
          · exact h
        refine Classical.byContradiction fun hno => ?_
        obtain ⟨j, hj1, hj2⟩ := not_subM hs
        have := hA.close (fun j => lA.testBit j = true) (fun m om hm hmk e he hb => hd m om hm hmk e he hb) k ok hk (fun e he hbe => ?_) j hj1
        · rw [hj2] at this; cases this
        · cases hh : lA.testBit e.on with
          | true => rfl
          | false => exact (hno ⟨e, he, hbe, hh⟩).elim
      have hag : ∀ {fr' : Fr} {H' : Heap}, chk P ops fr' H' js = true → Again P n ops (fun i => an.getD i 0) lA i fr' H' := by
        intro fr' H' hc j oj hj hjA hjan hro
        have := k5 j (Array.getElem?_eq_some_iff.1 hj).1
        simp only [Bool.or_eq_true, Bool.not_eq_true'] at this
        rw [hj] at this
        have hjs : j ∈ js := by
          rcases this with ((h | h) | h) | h
          · unfold inM at h; rw [hjA] at h; cases h
          · unfold inM at h; rw [hjan] at h; cases h
          · simp [hro] at h
          · rw [List.any_eq_true] at h
            obtain ⟨x, hx, hx2⟩ := h
            rw [nbeq hx2]; exact hx
        exact chk_ok hc hjs hj
      have cont : ∀ {fr' : Fr} {H' : Heap} {outs : List ROut}, (bif chk P ops fr' H' js then evP P S rc n ops rest fr' H' else none) = some outs →
          Again P n ops (fun i => an.getD i 0) lA i fr' H' ∧ WD P B r n ops (fun i => an.getD i 0) (lA ||| 2 ^ i) fr' H' (FOutP outs) := by
        intro fr' H' outs hh
        cases hc : chk P ops fr' H' js with
        | false => rw [hc] at hh; cases hh
        | true => rw [hc] at hh; exact ⟨hag hc, evP_sound hS hrc hA rest _ _ _ _ k6 hd' hh⟩
      unfold evOp at h
      split at h
      · cases h
      · rename_i hw
        obtain ⟨fr', hp, hk⟩ := putK_some h
        exact WD.skipped hA ho k1 hone hw hp (cont hk).1 (cont hk).2
      · rename_i hw
        split at h
        · cases h
        · rename_i v H' he
          obtain ⟨v', fr', x, hun, hp, hk, hxo⟩ := putV_some h
          exact WD.val hA ho k1 hone hw he hun hp (cont hk).1 ((cont hk).2.mono fun _ _ hm => hxo _ hm)
        · rename_i l he
          refine WD.opts hA ho k1 hone hw he fun q hq => ?_
          obtain ⟨x, hx, hxo⟩ := bindL_hit h (nil1_hit hq)
          obtain ⟨fr', hp, hk⟩ := putK_some hx
          exact ⟨fr', hp, (cont hk).1, (cont hk).2.mono fun _ _ hm => hxo _ hm⟩
        · rename_i f args he
          split at h
          · cases h
          · rename_i l hl
            refine WD.call hA ho k1 hone hw he ((evF_sound hS hrc hl).mono fun v H' hm => ?_)
            obtain ⟨x, hx, hxo⟩ := bindL_hit h hm
            obtain ⟨fr', hp, hk⟩ := putK_some hx
            exact ⟨fr', hp, (cont hk).1, (cont hk).2.mono fun _ _ hm => hxo _ hm⟩
        · rename_i l args he
          split at h
          · cases h
          · rename_i l hl
            refine WD.yield hA ho k1 hone hw he ((evY_sound hrc hl).mono fun v H' hm => ?_)
            obtain ⟨x, hx, hxo⟩ := bindL_hit h hm
            obtain ⟨fr', hp, hk⟩ := putK_some hx
            exact ⟨fr', hp, (cont hk).1, (cont hk).2.mono fun _ _ hm => hxo _ hm⟩

theorem evR_sound (hS : SumOk P B S) (hrc : Sound P B rc) {g : Operand} {ps : Array Tmp} {as bd : Code} {outs : List Out} (h : evR P S rc n g ps as bd fr H = some outs) :
    WC P B none n (.rangeFunc g ps as bd) fr H (OutP outs) := by
  unfold evR at h
  split at h
  · cases h
  · rename_i gv hg
    split at h
    · rename_i f args hc
      split at h
      · cases h
      · rename_i outs1 hf
        refine WC.rangeFunc hg hc ((evF_sound hS hrc hf).mono fun v H2 hm => ?_)
        obtain ⟨y, hy, hyo⟩ := bindL_hit h hm
        simp only at hy
        split at hy
        · rename_i st pd fn fr0 nt ps' as' bd' hi
          refine ⟨st, pd, fn, fr0, nt, ps', as', bd', hi, ?_⟩
          cases hst : (st == LoopState.busy) with
          | true => rw [hst] at hy; cases hy
          | false =>
            rw [hst] at hy
            refine ⟨rfl, ?_⟩
            simp only [cond_false] at hy
            cases pd with
            | none => cases hy; exact hyo _ (hit_one _)
            | some c => exact (hrc.c _ _ _ _ _ _ hy none fun _ => rfl).mono fun x fr' H' hm => hyo _ hm
        · cases hy
    · cases h

theorem nors_some {l : Option (List ROut)} {outs : List Out} (h : nors l = some outs) : ∃ l', l = some l' ∧ ∀ fr' H', Hit l' (fr', H') → Hit outs (.nor, fr', H') := by
  unfold nors at h
  split at h
  · cases h
  · rename_i l'; cases h; exact ⟨l', rfl, fun fr' H' ⟨p, hp, hm⟩ => ⟨p, hp, List.mem_map.2 ⟨_, hm, rfl⟩⟩⟩

theorem thenC_go {k : Fr → Heap → Option (List Out)} {outs1 outs : List Out} (h : thenC outs1 k = some outs) :
    (∀ fr' H', OutP outs1 XT.nor fr' H' → ∃ x, k fr' H' = some x ∧ ∀ b, Hit x b → Hit outs b) ∧ ∀ x fr' H', x ≠ XT.nor → OutP outs1 x fr' H' → OutP outs x fr' H' := by
  refine ⟨fun fr' H' hm => ?_, fun x fr' H' hx hm => ?_⟩
  · obtain ⟨y, hy, hyo⟩ := bindL_hit h hm
    exact ⟨y, hy, hyo⟩
  · obtain ⟨y, hy, hyo⟩ := bindL_hit h hm
    cases x with
    | nor => exact (hx rfl).elim
    | ex id => cases hy; exact hyo _ (hit_one _)
    | ret => cases hy; exact hyo _ (hit_one _)

theorem loop_go (hrc : Sound P B rc) {inR : Bool} {c : Code} {outs1 outs : List Out} (hr : inR = false → r = none) (h : thenC outs1 (rc inR true n c) = some outs) :
    (∀ fr' H', OutP outs1 XT.nor fr' H' → WL P B r n c fr' H' (OutP outs)) ∧ ∀ x fr' H', x ≠ XT.nor → OutP outs1 x fr' H' → OutP outs x fr' H' := by
  refine ⟨fun fr' H' hm => ?_, (thenC_go h).2⟩
  obtain ⟨y, hy, hyo⟩ := (thenC_go h).1 fr' H' hm
  exact (hrc.l _ _ _ _ _ _ hy r hr).mono fun x fr' H' hm => hyo _ hm

theorem stepC_sound (hm : P.follows .mixedOrders = true) (hS : SumOk P B S) (hrc : Sound P B rc) : Sound P B (stepC P S rc) where
  c inR n c fr H outs h r hr := by
    unfold stepC at h
    simp only at h
    split at h
    · cases h; exact WC.skip (hit_one _)
    · cases h; exact WC.label (hit_one _)
    · cases h; exact WC.exit (hit_one _)
    · cases h; exact WC.ret (hit_one _)
    · rename_i x y
      split at h
      · cases h
      · rename_i outs1 hc
        refine WC.seq (hrc.c _ _ _ _ _ _ hc r hr) (fun fr' H' hm => ?_) (thenC_go h).2
        obtain ⟨y, hy, hyo⟩ := (thenC_go h).1 fr' H' hm
        exact (hrc.c _ _ _ _ _ _ hy r hr).mono fun x fr' H' hm => hyo _ hm
    · split at h
      · rename_i t ht; exact WC.cond ht (hrc.c _ _ _ _ _ _ h r hr)
      · rename_i b hb
        unfold both at h
        split at h
        · rename_i x y hx hy
          cases h
          refine WC.condS hb ?_
          cases b with
          | true => exact (hrc.c _ _ _ _ _ _ hx r hr).mono fun x fr' H' ⟨p, hp, hm⟩ => ⟨[(true, true)] ++ p, (PathOk.one true).append hp, List.mem_append_left _ (pre_mem hm)⟩
          | false => exact (hrc.c _ _ _ _ _ _ hy r hr).mono fun x fr' H' ⟨p, hp, hm⟩ => ⟨[(false, false)] ++ p, (PathOk.one false).append hp, List.mem_append_right _ (pre_mem hm)⟩
        · cases h
      · cases h
    · rename_i id c
      split at h
      · cases h
      · rename_i outs1 hc
        cases h
        refine WC.block ((hrc.c _ _ _ _ _ _ hc r hr).mono fun x fr' H' hm => ?_)
        obtain ⟨p, hp, hm⟩ := hm
        have hmem := List.mem_map_of_mem (f := unblock id) hm
        cases x with
        | nor => exact ⟨p, hp, hmem⟩
        | ret => exact ⟨p, hp, hmem⟩
        | ex id' =>
          simp only
          by_cases hi : id' = id
          · rw [if_pos hi]; subst hi
            have e : unblock id' (p, .ex id', fr', H') = (p, .nor, fr', H') := by
              show (bif Nat.beq id' id' then _ else _) = _
              rw [Nat.beq_refl]; rfl
            rw [e] at hmem; exact ⟨p, hp, hmem⟩
          · rw [if_neg hi]
            have : Nat.beq id' id = false := by
              cases hb : Nat.beq id' id with
              | false => rfl
              | true => exact absurd (nbeq hb) hi
            have e : unblock id (p, .ex id', fr', H') = (p, .ex id', fr', H') := by
              show (bif Nat.beq id' id then _ else _) = _
              rw [this]; rfl
            rw [e] at hmem; exact ⟨p, hp, hmem⟩
    · rename_i c
      split at h
      · cases h
      · rename_i outs1 hc
        obtain ⟨g1, g2⟩ := loop_go hrc hr h
        exact WC.loop (hrc.c _ _ _ _ _ _ hc r hr) g1 g2
    · obtain ⟨l', hl, hlo⟩ := nors_some h
      exact WC.region ((evO_sound hS hrc _ _ _ _ hl).mono fun _ _ hm => hlo _ _ hm)
    · rename_i ops
      split at h
      · cases h
      · rename_i pl hpl
        obtain ⟨l', hl, hlo⟩ := nors_some h
        unfold plan at hpl
        simp only at hpl
        cases hb : (backOk 0 ops.toList && okPlan P ops (ancs ops) 0 (mkPlan P ops (ancs ops) ops.size 0)) with
        | false => rw [hb] at hpl; cases hpl
        | true =>
          rw [hb] at hpl
          cases hpl
          rw [Bool.and_eq_true] at hb
          exact WC.drawn hm ((evP_sound hS hrc (anc_of hb.1) _ 0 _ _ _ hb.2 (fun j o _ hj => by simp at hj) hl).mono fun _ _ hm => hlo _ _ hm)
    · split at h
      · cases h
      · rw [hr rfl]; exact evR_sound hS hrc h
    · cases h
  l inR n c fr H outs h r hr := by
    unfold stepC at h
    simp only at h
    split at h
    · cases h
    · rename_i outs1 hc
      obtain ⟨g1, g2⟩ := loop_go hrc hr h
      exact WL.round (hrc.c _ _ _ _ _ _ hc r hr) g1 g2

theorem evC_sound (hm : P.follows .mixedOrders = true) (hS : SumOk P B S) : ∀ k, Sound P B (evC P S k)
  | 0 => ⟨fun _ _ _ _ _ _ h => (by cases h), fun _ _ _ _ _ _ h => (by cases h)⟩
  | k + 1 => stepC_sound hm hS (evC_sound hm hS k)

theorem run_sound (hm : P.follows .mixedOrders = true) (hS : SumOk P B S) {k : Nat} {f : FuncId} {args : List AV} {outs : List FOut} (h : run P S k f args H = some outs) : WF P B f args H fun v H' => Hit outs (v, H') :=
  evF_sound hS (evC_sound hm hS k) h

def noSum : Sum := fun _ _ _ => none
theorem noSum_ok : SumOk P B noSum := fun _ _ _ _ h => by cases h

/-- It hands back true, whatever happens. -/
def okT : Option (List FOut) → Bool
  | some l => l.all fun o => match o.2.1 with
    | .bool true => true
    | _ => false
  | none => false

theorem run_true (hm : P.follows .mixedOrders = true) (hS : SumOk P B S) {k : Nat} {f : FuncId} {args : List AV} (h : okT (run P S k f args H) = true) : WF P B f args H fun v _ => v = .bool true := by
  unfold okT at h
  split at h
  · rename_i l hl
    refine (run_sound hm hS hl).mono fun v H' ⟨p, _, hm⟩ => ?_
    rw [List.all_eq_true] at h
    have := h _ hm
    simp only at this
    split at this
    · first | rfl | assumption
    · cases this
  · cases h

end
end Go.AM
