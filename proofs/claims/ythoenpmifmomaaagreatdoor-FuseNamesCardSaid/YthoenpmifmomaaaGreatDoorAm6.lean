/-
  The abstract machine's operations: slicing, rows that are made, copies, appends, each held against the model's. Conditions: none.
-/
import Derived.Test.YthoenpmifmomaaaGreatDoorAm5
namespace Go.Am
open Go

section ops
variable (P : Program)

/-- A bound of a slice expression: left out, or a number. -/
def aBound (x : Option AV) (dflt : Nat) : Option Nat :=
  match x with
  | none => some dflt
  | some (.int _ n) => if n < 0 then none else some n.toNat
  | some _ => none

inductive ORel (S : Sh) : Option AV → Option Value → Prop
  | none : ORel S none none
  | some (x : AV) (v : Value) : VRel S x v → ORel S (some x) (some v)

def aSlice (t : TypeId) (x : AV) (lo hi mx : Option AV) : Option AV :=
  match P.underlying t, x, mx with
  | some .string, .str s, none =>
    match aBound hi s.length, aBound lo 0 with
    | some h, some l => if l ≤ h ∧ h ≤ s.length then some (.str ((s.drop l).take (h - l))) else none
    | _, _ => none
  | some (.slice e), .isl true fam off [], none =>
    match aBound hi 0, aBound lo 0, tSize P e with
    | some 0, some 0, some _ => some (.isl true fam off [])
    | _, _, _ => none
  | some (.slice e), .isl false fam off xs, none =>
    match aBound hi xs.length, aBound lo 0, tSize P e with
    | some h, some l, some (m + 1) =>
      if l ≤ h ∧ h ≤ xs.length ∧ (xs.all fun x => x.cells.length == m + 1) then some (.isl false (if h = xs.length ∧ l < h then fam else none) (off + l) ((xs.drop l).take (h - l))) else none
    | _, _, _ => none
  | some (.slice e), .msl b off len, none =>
    match aBound hi len, aBound lo 0, tSize P e with
    | some h, some l, some (m + 1) =>
      if l ≤ h ∧ h ≤ len then (if h = l then some (.isl false none 0 []) else some (.msl b (off + l * (m + 1)) (h - l))) else none
    | _, _, _ => none
  | some (.array n e), .ptr b off, none =>
    match aBound hi n, aBound lo 0, tSize P e with
    | some h, some l, some (m + 1) =>
      if l ≤ h ∧ h ≤ n then (if h = l then some (.isl false none 0 []) else some (.msl b (off + l * (m + 1)) (h - l))) else none
    | _, _, _ => none
  | _, _, _ => none

variable {P}

theorem run_sliceBound {S : Sh} {x : AV} {v : Value} {n y : Nat} {code : BoundsCode} (hx : aBound (some x) 0 = some n) (hv : VRel S x v) (hy : n ≤ y) (w : World) :
    (Instr.sliceBound v y code).run P w = .ok n w := by
  unfold aBound at hx
  split at hx
  · simp_all
  · rename_i k m heq
    cases heq
    cases hv
    split at hx <;> cases hx
    rename_i h0
    have h1 : 0 ≤ m := by omega
    have h2 : m ≤ (y : Int) := by omega
    simp [Instr.sliceBound, asIntOf, h1, h2]
  · cases hx

theorem run_sliceBounds {S : Sh} {lo hi : Option AV} {lo' hi' : Option Value} {b : Bool} {len cap l h : Nat} (hlo : ORel S lo lo') (hhi : ORel S hi hi') (h1 : aBound hi len = some h) (h2 : aBound lo 0 = some l)
    (hl : l ≤ h) (hc : h ≤ cap) (w : World) : (Instr.sliceBounds b len cap lo' hi' none).run P w = .ok (l, h, cap) w := by
  cases hhi with
  | none =>
    simp only [aBound, Option.some.injEq] at h1; subst h1
    cases hlo with
    | none => simp only [aBound, Option.some.injEq] at h2; subst h2; simp [Instr.sliceBounds]
    | some x v hv =>
      have e : aBound (some x) 0 = some l := by cases x <;> simp_all [aBound]
      simp [Instr.sliceBounds, run_sliceBound e hv hl]
  | some z u hu =>
    have e' : aBound (some z) 0 = some h := by cases z <;> simp_all [aBound]
    cases hlo with
    | none => simp only [aBound, Option.some.injEq] at h2; subst h2; simp [Instr.sliceBounds, run_sliceBound e' hu hc]
    | some x v hv =>
      have e : aBound (some x) 0 = some l := by cases x <;> simp_all [aBound]
      simp [Instr.sliceBounds, run_sliceBound e hv hl, run_sliceBound e' hu hc]

theorem uniform_take {sz : Nat} {xs : List AV} (h : ∀ x ∈ xs, x.cells.length = sz) (l n : Nat) : ∀ x ∈ (xs.drop l).take n, x.cells.length = sz :=
  fun x hx => h x (List.mem_of_mem_drop (List.mem_of_mem_take hx))

theorem CRel.rows {S : Sh} {sz : Nat} {xs : List AV} {a o : Nat} (hsz : ∀ x ∈ xs, x.cells.length = sz) (hc : CRel S (flat xs) a o) (l n : Nat) (hl : l ≤ xs.length) :
    CRel S (flat ((xs.drop l).take n)) a (o + l * sz) := by
  have e1 : flat xs = flat (xs.take l) ++ (flat ((xs.drop l).take n) ++ flat ((xs.drop l).drop n)) := by
    rw [← flat_append, ← flat_append, List.take_append_drop, List.take_append_drop]
  rw [e1] at hc
  have h2 := (CRel.append.1 (CRel.append.1 hc).2).1
  rw [flat_length (sz := sz) (fun x hx => hsz x (List.mem_of_mem_take hx)), List.length_take, Nat.min_eq_left hl] at h2
  exact h2

theorem aSlice_ok {S : Sh} {t : TypeId} {x y : AV} {lo hi mx : Option AV} {u : Value} {lo' hi' mx' : Option Value} (hx : aSlice P t x lo hi mx = some y) (hu : VRel S x u) (hlo : ORel S lo lo') (hhi : ORel S hi hi') (hmx : ORel S mx mx') (w : World) :
    ∃ v, (Instr.sliceAt t u lo' hi' mx').run P w = .ok v w ∧ VRel S y v := by
  unfold aSlice at hx
  split at hx
  · rename_i s hd
    cases hmx; cases hu
    split at hx
    · rename_i h l hh hl
      split at hx <;> cases hx
      rename_i hle
      have hb := run_sliceBounds (P := P) (b := false) (cap := s.length) hlo hhi hh hl hle.1 hle.2 w
      refine ⟨.string ⟨((s.drop l).take (h - l)).toArray⟩, ?_, .str _⟩
      have hsz : (ByteArray.mk s.toArray).size = s.length := rfl
      have hex : (ByteArray.mk s.toArray).extract l h = ⟨((s.drop l).take (h - l)).toArray⟩ := by
        apply ByteArray.ext
        simp
      simp [Instr.sliceAt, Instr.slice, run_underlying hd, hsz, hb, hex]
    · cases hx
  · rename_i e fam off hd
    cases hmx; cases hu
    split at hx
    · rename_i n hh hl hn
      cases hx
      have hb := run_sliceBounds (P := P) (b := true) (len := 0) (cap := 0) hlo hhi hh hl (Nat.le_refl _) (Nat.le_refl _) w
      exact ⟨.slice none 0 0, by simp [Instr.sliceAt, Instr.slice, run_underlying hd, hb, run_sizeOf hn], .islNil _ _⟩
    · cases hx
  · rename_i e fam off xs hd
    cases hmx
    cases hu with
    | isl _ _ _ sz a o cap h0 hsz hc hcap hf =>
    split at hx
    · rename_i h l m hh hl hm
      split at hx <;> cases hx
      rename_i hle
      obtain ⟨h1, h2, h3⟩ := hle
      have hb := run_sliceBounds (P := P) (b := true) (len := xs.length) (cap := cap) hlo hhi hh hl h1 (by omega) w
      have hszm : ∀ x ∈ xs, x.cells.length = m + 1 := fun x hx => by simpa using List.all_eq_true.1 h3 x hx
      have hlen : ((xs.drop l).take (h - l)).length = h - l := by simp; omega
      by_cases hcl : cap = l
      · have hhl : h = l := by omega
        subst hhl
        subst hcl
        refine ⟨.slice (some ⟨a, o, none⟩) 0 0, by simp [Instr.sliceAt, Instr.slice, run_underlying hd, hb, run_sizeOf hm], ?_⟩
        rw [if_neg (by omega), Nat.sub_self, List.take_zero]
        exact .isl none _ [] 1 a o 0 (by omega) (by simp) (by simp [flat]; exact .nil _ _) (Nat.le_refl _) (fun φ hφ => by cases hφ)
      · refine ⟨.slice (some ⟨a, o + l * (m + 1), none⟩) (h - l) (cap - l), by simp [Instr.sliceAt, Instr.slice, run_underlying hd, hb, run_sizeOf hm, hcl, add_mk], ?_⟩
        by_cases hx0 : xs = []
        · subst hx0
          simp only [List.length_nil, Nat.le_zero] at h2
          subst h2
          obtain rfl : l = 0 := by omega
          rw [if_neg (by omega)]
          simp only [Nat.sub_self, List.take_zero]
          exact .isl none _ [] 1 a _ _ (by omega) (by simp) (by simp [flat]; exact .nil _ _) (Nat.zero_le _) (fun φ hφ => by cases hφ)
        · have hsz' : sz = m + 1 := by
            obtain ⟨x, xs', rfl⟩ := List.exists_cons_of_ne_nil hx0
            rw [← hsz x (by simp)]; exact hszm x (by simp)
          subst hsz'
          have key := VRel.isl (S := S) (if h = xs.length ∧ l < h then fam else none) (off + l) ((xs.drop l).take (h - l)) (m + 1) a (o + l * (m + 1)) (cap - l) h0 (uniform_take hsz l (h - l)) (CRel.rows hsz hc l (h - l) (by omega)) (by omega) ?_
          · rw [hlen] at key; exact key
          · intro φ hφ
            split at hφ
            · rename_i hcond
              obtain ⟨hc1, hc2⟩ := hcond
              obtain ⟨room, r1, r2⟩ := hf φ hφ
              refine ⟨room, ?_, ?_⟩
              · have e1 : off + l + (h - l) = off + xs.length := by omega
                have e2 : o + l * (m + 1) + (h - l) * (m + 1) = o + xs.length * (m + 1) := by
                  rw [Nat.add_assoc, ← Nat.add_mul]; congr 2; omega
                rw [hlen, e1, e2]; exact r1
              · have : o + l * (m + 1) + (cap - l) * (m + 1) = o + cap * (m + 1) := by
                  rw [Nat.add_assoc, ← Nat.add_mul]; congr 2; omega
                omega
            · cases hφ
    · cases hx
  · rename_i e b off len hd
    cases hmx
    cases hu with
    | msl _ _ _ c cap hc hcap =>
    split at hx
    · rename_i h l m hh hl hm
      split at hx
      · rename_i hle
        have hb := run_sliceBounds (P := P) (b := true) (len := len) (cap := cap) hlo hhi hh hl hle.1 (by omega) w
        by_cases hhl : h = l
        · rw [if_pos hhl] at hx; cases hx
          subst hhl
          refine ⟨.slice (some (if cap = h then ⟨c, off, none⟩ else ⟨c, off + h * (m + 1), none⟩)) 0 (cap - h), ?_, ?_⟩
          · simp [Instr.sliceAt, Instr.slice, run_underlying hd, hb, run_sizeOf hm, add_mk]
            split <;> rfl
          · split
            all_goals exact .isl none _ [] 1 c _ _ (by omega) (by simp) (by simp [flat]; exact .nil _ _) (Nat.zero_le _) (fun φ hφ => by cases hφ)
        · rw [if_neg hhl] at hx; cases hx
          have hne : cap ≠ l := by omega
          exact ⟨.slice (some ⟨c, off + l * (m + 1), none⟩) (h - l) (cap - l), by simp [Instr.sliceAt, Instr.slice, run_underlying hd, hb, run_sizeOf hm, hne, add_mk], .msl _ _ _ _ _ hc (by omega)⟩
      · cases hx
    · cases hx
  · rename_i n e b off hd
    cases hmx
    cases hu with
    | ptr _ _ c hc =>
    split at hx
    · rename_i h l m hh hl hm
      split at hx
      · rename_i hle
        have hb := run_sliceBounds (P := P) (b := false) (len := n) (cap := n) hlo hhi hh hl hle.1 hle.2 w
        by_cases hhl : h = l
        · rw [if_pos hhl] at hx; cases hx
          subst hhl
          refine ⟨.slice (some (if n = h then ⟨c, off, none⟩ else ⟨c, off + h * (m + 1), none⟩)) 0 (n - h), ?_, ?_⟩
          · simp [Instr.sliceAt, run_underlying hd, Instr.sureAddr, hb, run_sizeOf hm, add_mk]
          · split
            all_goals exact .isl none _ [] 1 c _ _ (by omega) (by simp) (by simp [flat]; exact .nil _ _) (Nat.zero_le _) (fun φ hφ => by cases hφ)
        · rw [if_neg hhl] at hx; cases hx
          have hne : n ≠ l := by omega
          exact ⟨.slice (some ⟨c, off + l * (m + 1), none⟩) (h - l) (n - l), by simp [Instr.sliceAt, run_underlying hd, Instr.sureAddr, hb, run_sizeOf hm, hne, add_mk], .msl _ _ _ _ _ hc (by omega)⟩
      · cases hx
    · cases hx
  · cases hx

end ops
end Go.Am
