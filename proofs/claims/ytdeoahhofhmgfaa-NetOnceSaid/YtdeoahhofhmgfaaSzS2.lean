/- A part of the proofs about sorting numbers (uint64): what is done, as summaries. No condition. -/
import Derived.Test.YtdeoahhofhmgfaaSzS1
namespace Go.Proofs.Ytdeoahhofhmgfaa.Sz
open Go.AM
noncomputable section

/-- What turns a block of numbers, and what looks. -/
def S1 : SumP := fun f args H => match args with
  | .sw i :: xs => match H.get i with
    | some (.seq (.one (.int .u64)) rows none) => match f, nums xs with
      | 136, some [lo, hi, first] => some (.gen fun Q => (0 ≤ lo ∧ lo ≤ List.length (α := Int) rows ∧ 0 ≤ first ∧ first ≤ List.length (α := Int) rows ∧ 0 ≤ hi ∧ first + hi ≤ List.length (α := Int) rows ∧ List.length (α := Int) rows < 4611686018427387904) ∧
          ∀ r : List Int, r.Perm rows → Q (.tup []) (H.set i (.seq uR r none)))
      | 116, some [a, b] => some (.gen fun Q => (0 ≤ a ∧ b ≤ List.length (α := Int) rows ∧ a ≤ List.length (α := Int) rows ∧ List.length (α := Int) rows < 4611686018427387904) ∧
          ∀ r : List Int, r.Perm rows → Q (.tup []) (H.set i (.seq uR r none)))
      | 120, some [a, b] => some (.gen fun Q => (0 ≤ a ∧ 0 ≤ b ∧ b ≤ List.length (α := Int) rows ∧ List.length (α := Int) rows < 4611686018427387904) ∧
          ∀ r : List Int, r.Perm rows → Q (.tup []) (H.set i (.seq uR r none)))
      | 121, some [a, b] => some (.gen fun Q => (0 ≤ a ∧ a < b ∧ b ≤ List.length (α := Int) rows ∧ List.length (α := Int) rows < 4611686018427387904) ∧
          ∀ (r : List Int) (c : Bool), r.Perm rows → Q (.sB c) (H.set i (.seq uR r none)))
      | 123, some [a, b, p] => some (.gen fun Q => (0 ≤ a ∧ a < b ∧ b ≤ List.length (α := Int) rows ∧ a ≤ p ∧ p < b ∧ List.length (α := Int) rows < 4611686018427387904) ∧
          ∀ (r : List Int) (n : Int), r.Perm rows → a + 1 ≤ n → n ≤ b → Q (.sI .i64 n) (H.set i (.seq uR r none)))
      | 124, some [a, b, p] => some (.gen fun Q => (0 ≤ a ∧ a < b ∧ b ≤ List.length (α := Int) rows ∧ a ≤ p ∧ p < b ∧ List.length (α := Int) rows < 4611686018427387904) ∧
          ∀ (r : List Int) (n : Int) (c : Bool), r.Perm rows → a ≤ n → n < b → Q (.tup [.sI .i64 n, .sB c]) (H.set i (.seq uR r none)))
      | _, _ => none
    | _ => none
  | xs => match f, nums xs with
    | 137, some [x] => some (.gen fun Q => (1 ≤ x ∧ x < 4611686018427387904) ∧ ∀ m : Int, x < m → m ≤ 2 * x → Q (.sI .u64 m) H)
    | _, _ => none
theorem w136 {B : Nat} {lo hi first : Int} {rows : List Int} (h1 : 0 ≤ lo) (h2 : lo ≤ rows.length) (h3 : 0 ≤ first) (h4 : first ≤ rows.length) (h5 : 0 ≤ hi) (h6 : first + hi ≤ rows.length) (h7 : rows.length < 4611686018427387904) : WF Try.prog B 136 (.sw 0 :: sI64 [lo, hi, first]) (hS rows) (postN fun r => r.Perm rows) :=
  WF.owe (Owe.of (Sd.owed_eq lo hi first rows _ _) (Sd.sd_ok h1 h2 h3 h4 h5 h6 h7)) mixed noS_ok
theorem w116 {B : Nat} {a b : Int} {rows : List Int} (h1 : 0 ≤ a) (h2 : b ≤ rows.length) (h3 : a ≤ rows.length) (h4 : rows.length < 4611686018427387904) : WF Try.prog B 116 (.sw 0 :: sI64 [a, b]) (hS rows) (postN fun r => r.Perm rows) :=
  WF.owe (Owe.of (In.owed_eq a b rows _ _ _) (In.in_ok h1 h2 h3 h4)) mixed noS_ok
theorem w120 {B : Nat} {a b : Int} {rows : List Int} (h1 : 0 ≤ a) (h2 : 0 ≤ b) (h3 : b ≤ rows.length) (h4 : rows.length < 4611686018427387904) : WF Try.prog B 120 (.sw 0 :: sI64 [a, b]) (hS rows) (postN fun r => r.Perm rows) :=
  WF.owe (Owe.of (Rr.owed_eq a b rows _ _) (Rr.rr_ok h1 h2 h3 h4)) mixed noS_ok
theorem w121 {B : Nat} {a b : Int} {rows : List Int} (h1 : 0 ≤ a) (h2 : a < b) (h3 : b ≤ rows.length) (h4 : rows.length < 4611686018427387904) : WF Try.prog B 121 (.sw 0 :: sI64 [a, b]) (hS rows) (postB fun r => r.Perm rows) :=
  WF.owe (Owe.of (Pi.owed_eq a b rows _ _ _ _ _) (Pi.pi_ok h1 h2 h3 h4)) mixed noS_ok
theorem w123 {B : Nat} {a b p : Int} {rows : List Int} (h1 : 0 ≤ a) (h2 : a < b) (h3 : b ≤ rows.length) (h4 : a ≤ p) (h5 : p < b) (h6 : rows.length < 4611686018427387904) : WF Try.prog B 123 (.sw 0 :: sI64 [a, b, p]) (hS rows) (postI fun r i => r.Perm rows ∧ a + 1 ≤ i ∧ i ≤ b) :=
  WF.owe (Owe.of (Pe.owed_eq a b p rows _ _ _) (Pe.pe_ok h1 h2 h3 h4 h5 h6)) mixed noS_ok
theorem w124 {B : Nat} {a b p : Int} {rows : List Int} (h1 : 0 ≤ a) (h2 : a < b) (h3 : b ≤ rows.length) (h4 : a ≤ p) (h5 : p < b) (h6 : rows.length < 4611686018427387904) : WF Try.prog B 124 (.sw 0 :: sI64 [a, b, p]) (hS rows) (postIB fun r i => r.Perm rows ∧ a ≤ i ∧ i < b) :=
  WF.owe (Owe.of (Pt.owed_eq a b p rows _ _ _ _ _) (Pt.pt_ok h1 h2 h3 h4 h5 h6)) mixed noS_ok
theorem w137 {B : Nat} {x : Int} (h1 : 1 ≤ x) (h2 : x < 4611686018427387904) : WF Try.prog B 137 [.sI .i64 x] H0 (Bn.postX fun m => x < m ∧ m ≤ 2 * x) :=
  WF.owe (Owe.of (Bn.owed_eq x _) (Bn.bn_ok h1 h2)) mixed noS_ok
theorem of_postIB {B : Nat} {f : FuncId} {args : List AV} {H : Heap} {ok : List Int → Int → Prop} (h : WF Try.prog B f args H (postIB ok)) : WF Try.prog B f args H fun v H' => 1 ≤ H'.next ∧ ∃ r, H'.get 0 = some (.seq uR r none) ∧ v.closed = true ∧ (∃ n b, v = .tup [.sI .i64 n, .sB b] ∧ ok r n) :=
  WF.reval h fun v H' ρ x hv hr => by
    unfold postIB at hv
    split at hv
    · rename_i u y
      split at hv
      · rename_i n b hn hb
        split at hv
        · rename_i r hr2
          simp only [Rel, RelL] at hr
          obtain ⟨cs, rfl, x1, l1, e1, r1, x2, l2, rfl, r2, rfl⟩ := hr
          obtain ⟨rfl, hh⟩ := asX_sound hn r1
          have e2 := asB_sound hb r2
          refine ⟨.tup [.sI .i64 n, .sB b], ⟨hv.2, r, hr2, rfl, n, b, rfl, hv.1⟩, ?_⟩
          simp only [Rel, RelL]
          exact ⟨cs, rfl, _, _, e1, ⟨by trivial, hh⟩, _, _, rfl, e2, rfl⟩
        · exact hv.elim
      · exact hv.elim
    · exact hv.elim
theorem nums1 {xs : List AV} {n : Int} (h : nums xs = some [n]) : ∃ v, xs = [v] ∧ v.asX = some (.i64, n) := by
  match xs, h with
  | [], h => cases h
  | v :: vs, h =>
    unfold nums at h
    split at h
    · rename_i m hv
      rw [Option.map_eq_some_iff] at h
      obtain ⟨ms, h1, h2⟩ := h
      cases h2
      match vs, h1 with
      | [], _ => exact ⟨v, rfl, hv⟩
      | w :: ws, h1 =>
        unfold nums at h1
        split at h1
        · rw [Option.map_eq_some_iff] at h1
          obtain ⟨_, _, h3⟩ := h1
          cases h3
        · cases h1
    · cases h
/-- A place may be told as a number. -/
theorem WF.argX {B : Nat} {f : FuncId} {v : AV} {n : Int} {H : Heap} {Q : AV → Heap → Prop} (hv : v.asX = some (.i64, n)) (h : WF Try.prog B f [.sI .i64 n] H Q) : WF Try.prog B f [v] H Q := fun ρ w xs hr hx => by
  obtain ⟨x, l, e1, r1, rfl⟩ := hx
  obtain ⟨rfl, hh⟩ := asX_sound hv r1
  exact h ρ w xs hr ⟨_, _, e1, by simp only [Rel]; exact ⟨trivial, hh⟩, rfl⟩
theorem S1_ok {B : Nat} : SumPOk Try.prog B S1 := by
  intro f args H s h
  unfold S1 at h
  split at h
  · rename_i i xs
    split at h
    · rename_i rows ho
      split at h
      · rename_i lo hi first hn
        cases h
        rintro Q ⟨⟨p1, p2, p3, p4, p5, p6, p7⟩, hq⟩
        exact (turn_any ho hn (of_postN (w136 p1 p2 p3 p4 p5 p6 (by omega)))).mono fun v H' ⟨r, ⟨hv, hp⟩, e⟩ => by subst hv; subst e; exact hq r hp
      · rename_i a b hn
        cases h
        rintro Q ⟨⟨p1, p2, p3, p4⟩, hq⟩
        exact (turn_any ho hn (of_postN (w116 p1 p2 p3 (by omega)))).mono fun v H' ⟨r, ⟨hv, hp⟩, e⟩ => by subst hv; subst e; exact hq r hp
      · rename_i a b hn
        cases h
        rintro Q ⟨⟨p1, p2, p3, p4⟩, hq⟩
        exact (turn_any ho hn (of_postN (w120 p1 p2 p3 (by omega)))).mono fun v H' ⟨r, ⟨hv, hp⟩, e⟩ => by subst hv; subst e; exact hq r hp
      · rename_i a b hn
        cases h
        rintro Q ⟨⟨p1, p2, p3, p4⟩, hq⟩
        exact (turn_any ho hn (of_postB (w121 p1 p2 p3 (by omega)))).mono fun v H' ⟨r, ⟨⟨c, hv⟩, hp⟩, e⟩ => by subst hv; subst e; exact hq r c hp
      · rename_i a b p hn
        cases h
        rintro Q ⟨⟨p1, p2, p3, p4, p5, p6⟩, hq⟩
        exact (turn_any ho hn (of_postI (w123 p1 p2 p3 p4 p5 (by omega)))).mono fun v H' ⟨r, ⟨n, hv, hp⟩, e⟩ => by subst hv; subst e; exact hq r n hp.1 hp.2.1 hp.2.2
      · rename_i a b p hn
        cases h
        rintro Q ⟨⟨p1, p2, p3, p4, p5, p6⟩, hq⟩
        exact (turn_any ho hn (of_postIB (w124 p1 p2 p3 p4 p5 (by omega)))).mono fun v H' ⟨r, ⟨n, c, hv, hp⟩, e⟩ => by subst hv; subst e; exact hq r n c hp.1 hp.2.1 hp.2.2
      · cases h
    · cases h
  · split at h
    · rename_i x hn
      cases h
      rintro Q ⟨⟨p1, p2⟩, hq⟩
      obtain ⟨v, rfl, hv⟩ := nums1 hn
      have h1 : WF Try.prog B 137 [.sI .i64 x] H0 (Bn.postX fun m => x < m ∧ m ≤ 2 * x) := w137 p1 (by omega)
      have h2 := WF.reval h1 (Q' := fun v _ => ∃ m, v = .sI .u64 m ∧ x < m ∧ m ≤ 2 * x) fun v H' ρ y hv hr => by
        unfold Bn.postX at hv
        split at hv
        · rename_i m hm
          obtain ⟨rfl, hh⟩ := asX_sound hm hr
          exact ⟨.sI .u64 m, ⟨m, rfl, hv⟩, by simp only [Rel]; exact ⟨trivial, hh⟩⟩
        · exact hv.elim
      have h3 : WF Try.prog B 137 [.sI .i64 x] H fun v H' => (∃ m, v = .sI .u64 m ∧ x < m ∧ m ≤ 2 * x) ∧ H' = H := h2.pure rfl fun v H' hv => ⟨hv, by obtain ⟨m, e, _⟩ := hv; rw [e]; rfl⟩
      exact (WF.argX hv h3).mono fun v H' ⟨⟨m, hv, m1, m2⟩, e⟩ => by subst hv; subst e; exact hq m m1 m2
    · cases h
end
end Go.Proofs.Ytdeoahhofhmgfaa.Sz
