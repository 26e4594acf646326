/- THE ABSTRACT MACHINE, 6: the operations are sound, part 3: slices, new memory, numbers, conversions. -/
import Derived.Test.YtdeoahhofhmgfaaAmSnd2
namespace Go.AM
open Go.RowKit
section
variable {B : Nat} {ρ : Env} {H : Heap} {w : World} {P : Program}

def RelO (ρ : Env) : Option AV → Option Value → Prop
  | none, x => x = none
  | some v, x => ∃ y, x = some y ∧ Rel ρ v y

theorem sliceBound_run {v : AV} {n k m : Nat} {x : Value} {code : BoundsCode} (hr : Rel ρ v x) (h : bnd v n = some k) (hm : n ≤ m) : (Instr.sliceBound x m code).run P w = .ok k w := by
  obtain ⟨kd, rfl, hle⟩ := bnd_sound hr h
  simp [Instr.sliceBound, asIntOf, show k ≤ m by omega]

theorem bndO_le {o : Option AV} {n d k : Nat} (hd : d ≤ n) (h : bndO o n d = some k) : k ≤ n := by
  unfold bndO at h
  split at h
  · rename_i v
    unfold bnd at h
    split at h
    · rename_i kd i
      cases hb : Nat.ble i n with
      | false => simp [hb] at h
      | true => simp [hb] at h; subst h; exact Nat.le_of_ble_eq_true hb
    · cases h
  · cases h; exact hd

theorem sliceBounds_run {isS : Bool} {len cap c : Nat} {lo hi : Option AV} {lo' hi' : Option Value} {l h : Nat} (hlo : RelO ρ lo lo') (hhi : RelO ρ hi hi')
    (hc : cap ≤ c) (hh : bndO hi cap len = some h) (hl : bndO lo h 0 = some l) : (Instr.sliceBounds isS len c lo' hi' none).run P w = .ok (l, h, c) w := by
  unfold Instr.sliceBounds
  cases hi with
  | none =>
    simp only [RelO] at hhi; subst hhi
    simp only [bndO, Option.some.injEq] at hh; subst hh
    cases lo with
    | none => simp only [RelO] at hlo; subst hlo; simp only [bndO, Option.some.injEq] at hl; subst hl; simp
    | some v => obtain ⟨y, rfl, hr⟩ := hlo; simp [sliceBound_run (w := w) (P := P) hr hl (Nat.le_refl _)]
  | some u =>
    obtain ⟨z, rfl, hz⟩ := hhi
    cases lo with
    | none => simp only [RelO] at hlo; subst hlo; simp only [bndO, Option.some.injEq] at hl; subst hl; simp [sliceBound_run (w := w) (P := P) hz hh hc]
    | some v => obtain ⟨y, rfl, hr⟩ := hlo; simp [sliceBound_run (w := w) (P := P) hr hl (Nat.le_refl _), sliceBound_run (w := w) (P := P) hz hh hc]

theorem sliceBounds_run3 {len cap c : Nat} {lo : Option AV} {hv m : AV} {lo' : Option Value} {hv' m' : Value} {l h k : Nat} (hlo : RelO ρ lo lo') (hhi : Rel ρ hv hv') (hm : Rel ρ m m')
    (hc : cap ≤ c) (hk : bnd m cap = some k) (hh : bnd hv k = some h) (hl : bndO lo h 0 = some l) : (Instr.sliceBounds true len c lo' (some hv') (some m')).run P w = .ok (l, h, k) w := by
  unfold Instr.sliceBounds
  cases lo with
  | none => simp only [RelO] at hlo; subst hlo; simp only [bndO, Option.some.injEq] at hl; subst hl; simp [sliceBound_run (w := w) (P := P) hm hk hc, sliceBound_run (w := w) (P := P) hhi hh (Nat.le_refl _)]
  | some v => obtain ⟨y, rfl, hr⟩ := hlo; simp [sliceBound_run (w := w) (P := P) hr hl (Nat.le_refl _), sliceBound_run (w := w) (P := P) hm hk hc, sliceBound_run (w := w) (P := P) hhi hh (Nat.le_refl _)]

theorem extract_str (s : List UInt8) (l h : Nat) : (⟨s.toArray⟩ : ByteArray).extract l h = ⟨((s.take h).drop l).toArray⟩ := by
  apply ByteArray.ext
  rw [ByteArray.data_extract]
  apply Array.ext'
  simp [List.drop_take]

theorem aSlice_sound (hH : HR B ρ H w) {t : TypeId} {p v : AV} {x : Value} {lo hi mx : Option AV} {lo' hi' mx' : Option Value} (hp : Rel ρ p x) (hlo : RelO ρ lo lo') (hhi : RelO ρ hi hi') (hmx : RelO ρ mx mx')
    (h : aSlice P H t p lo hi mx = some v) : ∃ y, (Instr.sliceAt t x lo' hi' mx').run P w = .ok y w ∧ Rel ρ v y := by
  unfold aSlice at h
  cases hu : P.underlying t with
  | none => simp [hu] at h
  | some d =>
    simp only [hu, Option.bind_some] at h
    split at h
    · -- a string
      rename_i s
      split at h
      · simp only [RelO] at hmx; subst hmx
        cases h1 : bndO hi s.length s.length with
        | none => simp [h1] at h
        | some k =>
          cases h2 : bndO lo k 0 with
          | none => simp [h1, h2] at h
          | some l =>
            simp [h1, h2] at h
            subst h
            simp only [Rel] at hp
            subst hp
            have hsz : (⟨s.toArray⟩ : ByteArray).size = s.length := by simp [ByteArray.size]
            refine ⟨.string ⟨((s.take k).drop l).toArray⟩, ?_, by simp [Rel]⟩
            simp [Instr.sliceAt, run_underlying hu, Instr.slice, hsz, sliceBounds_run (w := w) (P := P) hlo hhi (Nat.le_refl _) h1 h2, extract_str]
      · cases h
    · -- a slice
      rename_i e i off len cap ex
      cases hi0 : P.info? e with
      | none => simp [hi0] at h
      | some inf =>
        simp only [hi0, Option.bind_some] at h
        simp only [Rel] at hp
        obtain ⟨a, c, ha, rfl, hlc, hcc, hex, hes⟩ := hp
        split at h
        · simp only [RelO] at hmx; subst hmx
          cases h1 : bndO hi cap len with
          | none => simp [h1] at h
          | some k =>
            cases h2 : bndO lo k 0 with
            | none => simp [h1, h2] at h
            | some l =>
              simp only [h1, h2, Option.bind_some] at h
              have hk := bndO_le hlc h1
              have hl := bndO_le (Nat.zero_le _) h2
              have hrun : (Instr.sliceAt t (.slice (some ⟨a.b, a.sh + off, none⟩) len c) lo' hi' none).run P w =
                  .ok (.slice (if c = l then some ⟨a.b, a.sh + off, none⟩ else some ⟨a.b, a.sh + (off + l * inf.size), none⟩) (k - l) (c - l)) w := by
                simp [Instr.sliceAt, run_underlying hu, Instr.slice, sliceBounds_run (w := w) (P := P) hlo hhi hcc h1 h2, sizeOf_run hi0, addr_add, Nat.add_assoc]
              refine ⟨_, hrun, ?_⟩
              cases hb : Nat.beq cap l with
              | true =>
                have e1 := Nat.eq_of_beq_eq_true hb
                simp only [hb, cond_true, Option.some.injEq] at h
                subst h
                have : k - l = 0 := by omega
                by_cases hcl : c = l
                · exact ⟨_, _, by rw [if_pos hcl, this]⟩
                · exact ⟨_, _, by rw [if_neg hcl, this]⟩
              | false =>
                have e1 : cap ≠ l := Nat.ne_of_beq_eq_false hb
                simp only [hb, cond_false] at h
                cases hq : (ex || Nat.beq l 0 || esIs H i inf.size) with
                | false => rw [hq] at h; cases h
                | true =>
                rw [hq] at h
                simp only [cond_true, Option.some.injEq] at h
                subst h
                rw [if_neg (by omega)]
                refine ⟨a, c - l, ha, rfl, by omega, by omega, fun h => by rw [hex h], fun hf => ?_⟩
                have h3 := hes hf
                subst hf
                simp only [Bool.false_or, Bool.or_eq_true] at hq
                rcases hq with hq | hq
                · have := Nat.eq_of_beq_eq_true hq; subst this; simpa using h3
                · have he : a.es = inf.size := by
                    unfold esIs at hq
                    split at hq
                    · rename_i ro es cs ho
                      have := (hH.at' ho ha).2.1
                      rw [this]; exact Nat.eq_of_beq_eq_true hq
                    · cases hq
                  rw [he] at h3 ⊢
                  have : l * inf.size + (c - l) * inf.size = c * inf.size := by rw [← Nat.add_mul]; congr 1; omega
                  omega
        · rename_i m
          obtain ⟨m', rfl, hm⟩ := hmx
          split at h
          · cases h
          · rename_i hv
            obtain ⟨hv', rfl, hhv⟩ := hhi
            cases h0 : bnd m cap with
            | none => simp [h0] at h
            | some q =>
              cases h1 : bnd hv q with
              | none => simp [h0, h1] at h
              | some k =>
                cases h2 : bndO lo k 0 with
                | none => simp [h0, h1, h2] at h
                | some l =>
                  simp only [h0, h1, h2, Option.bind_some, Option.map_some, Option.some.injEq] at h
                  have hq := (bnd_sound hm h0).choose_spec.2
                  have hk := (bnd_sound hhv h1).choose_spec.2
                  have hl := bndO_le (Nat.zero_le _) h2
                  have hrun : (Instr.sliceAt t (.slice (some ⟨a.b, a.sh + off, none⟩) len c) lo' (some hv') (some m')).run P w =
                      .ok (.slice (if q = l then some ⟨a.b, a.sh + off, none⟩ else some ⟨a.b, a.sh + (off + l * inf.size), none⟩) (k - l) (q - l)) w := by
                    simp [Instr.sliceAt, run_underlying hu, Instr.slice, sliceBounds_run3 (w := w) (P := P) hlo hhv hm hcc h0 h1 h2, sizeOf_run hi0, addr_add, Nat.add_assoc]
                  refine ⟨_, hrun, ?_⟩
                  cases hb : Nat.beq q l with
                  | true =>
                    have e1 := Nat.eq_of_beq_eq_true hb
                    simp only [hb, cond_true] at h
                    subst h
                    have : k - l = 0 := by omega
                    rw [if_pos e1, this]
                    exact ⟨_, _, rfl⟩
                  | false =>
                    have e1 : q ≠ l := Nat.ne_of_beq_eq_false hb
                    simp only [hb, cond_false] at h
                    subst h
                    rw [if_neg e1]
                    exact ⟨a, q - l, ha, rfl, by omega, by omega, fun _ => rfl, fun hf => by cases hf⟩
    · -- nil
      rename_i e
      cases hi0 : P.info? e with
      | none => simp [hi0] at h
      | some inf =>
        simp only [hi0, Option.bind_some] at h
        simp only [Rel] at hp
        subst hp
        split at h
        · simp only [RelO] at hmx; subst hmx
          cases h1 : bndO hi 0 0 with
          | none => simp [h1] at h
          | some k =>
            cases h2 : bndO lo k 0 with
            | none => simp [h1, h2] at h
            | some l =>
              simp [h1, h2] at h
              subst h
              have hk := bndO_le (Nat.le_refl _) h1
              have hl := bndO_le (Nat.zero_le _) h2
              have e1 : k = 0 := by omega
              have e2 : l = 0 := by omega
              subst e1; subst e2
              refine ⟨.slice none 0 0, ?_, by simp [Rel]⟩
              simp [Instr.sliceAt, run_underlying hu, Instr.slice, sliceBounds_run (w := w) (P := P) hlo hhi (Nat.le_refl _) h1 h2, sizeOf_run hi0]
        · cases h
    · -- an empty one
      rename_i e
      cases hi0 : P.info? e with
      | none => simp [hi0] at h
      | some inf =>
        simp only [hi0, Option.bind_some] at h
        simp only [Rel] at hp
        obtain ⟨a, c, rfl⟩ := hp
        split at h
        · simp only [RelO] at hmx; subst hmx
          cases h1 : bndO hi 0 0 with
          | none => simp [h1] at h
          | some k =>
            cases h2 : bndO lo k 0 with
            | none => simp [h1, h2] at h
            | some l =>
              simp [h1, h2] at h
              subst h
              have hk := bndO_le (Nat.le_refl _) h1
              have hl := bndO_le (Nat.zero_le _) h2
              have e1 : k = 0 := by omega
              have e2 : l = 0 := by omega
              subst e1; subst e2
              refine ⟨.slice (some a) 0 c, ?_, a, c, rfl⟩
              simp [Instr.sliceAt, run_underlying hu, Instr.slice, sliceBounds_run (w := w) (P := P) (c := c) hlo hhi (Nat.zero_le _) h1 h2, sizeOf_run hi0, Addr.add]
        · cases h
    · -- an array
      rename_i n e i off
      cases hi0 : P.info? e with
      | none => simp [hi0] at h
      | some inf =>
        simp only [hi0, Option.bind_some] at h
        simp only [Rel] at hp
        obtain ⟨a, ha, rfl⟩ := hp
        split at h
        · simp only [RelO] at hmx; subst hmx
          cases h1 : bndO hi n n with
          | none => simp [h1] at h
          | some k =>
            cases h2 : bndO lo k 0 with
            | none => simp [h1, h2] at h
            | some l =>
              simp only [h1, h2, Option.bind_some, Option.map_some, Option.some.injEq] at h
              have hk := bndO_le (Nat.le_refl _) h1
              have hl := bndO_le (Nat.zero_le _) h2
              have hrun : (Instr.sliceAt t (.pointer (some ⟨a.b, a.sh + off, none⟩)) lo' hi' none).run P w =
                  .ok (.slice (some (if n = l then ⟨a.b, a.sh + off, none⟩ else ⟨a.b, a.sh + (off + l * inf.size), none⟩)) (k - l) (n - l)) w := by
                simp [Instr.sliceAt, run_underlying hu, Instr.sureAddr, sliceBounds_run (w := w) (P := P) hlo hhi (Nat.le_refl _) h1 h2, sizeOf_run hi0, addr_add, Nat.add_assoc]
              refine ⟨_, hrun, ?_⟩
              cases hb : Nat.beq n l with
              | true =>
                have e1 := Nat.eq_of_beq_eq_true hb
                simp only [hb, cond_true] at h
                subst h
                have : k - l = 0 := by omega
                rw [if_pos e1, this]
                exact ⟨_, _, rfl⟩
              | false =>
                have e1 : n ≠ l := Nat.ne_of_beq_eq_false hb
                simp only [hb, cond_false] at h
                subst h
                rw [if_neg e1]
                exact ⟨a, n - l, ha, rfl, by omega, by omega, fun _ => rfl, fun hf => by cases hf⟩
        · cases h
    · cases h

end
end Go.AM
