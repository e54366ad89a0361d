/-
  Activations and counts after a set of operations; what must come before what. Conditions: none.
-/
import Derived.Test.YthoenpmifmomaaaGreatDoorAm28
noncomputable section
namespace Go.Am
open Go

/-! ### Activations -/

def disj (d d' : Option Tmp) : Prop := ∀ t, d = some t → d' ≠ some t

def actF : List (Option Tmp × AV) → Nat → (Nat → Bool) → AAct → AAct
  | [], _, _, a => a
  | (d, v) :: l, k, D, a => actF l (k + 1) D (if D k then a.put d v else a)

theorem AAct.put_comm (a : AAct) {d d' : Option Tmp} (v v' : AV) (h : disj d d') : (a.put d v).put d' v' = (a.put d' v').put d v := by
  cases d with
  | none => rfl
  | some t =>
    cases d' with
    | none => rfl
    | some t' =>
      have : t ≠ t' := fun e => h t rfl (by rw [e])
      simp only [AAct.put, setR_eq, List.set_comm _ _ this]

theorem actF_put {d : Option Tmp} {v : AV} : ∀ (l : List (Option Tmp × AV)) (k : Nat) (D : Nat → Bool) (a : AAct), (∀ j p, l[j]? = some p → D (k + j) = true → disj d p.1) → actF l k D (a.put d v) = (actF l k D a).put d v
  | [], _, _, _, _ => rfl
  | (d', v') :: l, k, D, a, h => by
    simp only [actF]
    have hrest : ∀ j p, l[j]? = some p → D (k + 1 + j) = true → disj d p.1 := fun j p hp hD => h (j + 1) p (by simpa using hp) (by rw [show k + (j + 1) = k + 1 + j by omega]; exact hD)
    cases hk : D k with
    | false => simp only [Bool.false_eq_true, if_false]; exact actF_put l (k + 1) D a hrest
    | true =>
      simp only [if_true]
      have hd := h 0 (d', v') rfl (by simpa using hk)
      rw [AAct.put_comm a v v' hd]
      exact actF_put l (k + 1) D _ hrest

theorem actF_congr {D D' : Nat → Bool} : ∀ (l : List (Option Tmp × AV)) (k : Nat) (a : AAct), (∀ j, j < l.length → D (k + j) = D' (k + j)) → actF l k D a = actF l k D' a
  | [], _, _, _ => rfl
  | (d', v') :: l, k, a, h => by
    simp only [actF]
    have h0 := h 0 (by simp)
    simp only [Nat.add_zero] at h0
    rw [h0]
    exact actF_congr l (k + 1) _ fun j hj => by have := h (j + 1) (by simp; omega); rw [show k + 1 + j = k + (j + 1) by omega]; exact this

theorem actF_add {D : Nat → Bool} {d : Option Tmp} {v : AV} : ∀ (l : List (Option Tmp × AV)) (i k : Nat) (a : AAct), l[i]? = some (d, v) → D (k + i) = false → (∀ j p, i < j → l[j]? = some p → D (k + j) = true → disj d p.1) →
    actF l k (addD D (k + i)) a = (actF l k D a).put d v
  | [], i, _, _, h, _, _ => by simp at h
  | (d', v') :: l, 0, k, a, h, hD, hdis => by
    simp at h
    obtain ⟨rfl, rfl⟩ := h
    simp only [actF, Nat.add_zero] at hD ⊢
    have h1 : addD D k k = true := by simp [addD]
    simp only [h1, hD, if_true, Bool.false_eq_true, if_false]
    rw [actF_congr (D' := D) l (k + 1) _ fun j _ => by simp [addD]; omega]
    exact actF_put l (k + 1) D a fun j p hp hj => hdis (j + 1) p (by omega) (by simpa using hp) (by rw [show k + (j + 1) = k + 1 + j by omega]; exact hj)
  | (d', v') :: l, i + 1, k, a, h, hD, hdis => by
    simp only [actF]
    have h1 : addD D (k + (i + 1)) k = D k := by simp [addD]
    rw [h1, show k + (i + 1) = k + 1 + i by omega]
    exact actF_add l i (k + 1) _ (by simpa using h) (by rw [show k + 1 + i = k + (i + 1) by omega]; exact hD) fun j p hij hp hj => hdis (j + 1) p (by omega) (by simpa using hp) (by rw [show k + (j + 1) = k + 1 + j by omega]; exact hj)

theorem actF_length : ∀ (l : List (Option Tmp × AV)) (k : Nat) (D : Nat → Bool) (a : AAct), (actF l k D a).tmps.length = a.tmps.length
  | [], _, _, _ => rfl
  | (d, v) :: l, k, D, a => by
    simp only [actF]
    rw [actF_length l]
    split
    · cases d <;> simp [AAct.put, setR_eq]
    · rfl

theorem put_length (a : AAct) (d : Option Tmp) (v : AV) : (a.put d v).tmps.length = a.tmps.length := by cases d <;> simp [AAct.put, setR_eq]

theorem put_get_ne (a : AAct) {d : Option Tmp} (v : AV) {t : Tmp} (h : d ≠ some t) : (a.put d v).tmps[t]? = a.tmps[t]? := by
  cases d with
  | none => rfl
  | some u =>
    simp only [AAct.put, setR_eq]
    rw [List.getElem?_set_ne (fun e => h (by rw [e]))]

theorem actF_get {D D' : Nat → Bool} {t : Tmp} : ∀ (l : List (Option Tmp × AV)) (k : Nat) (a a' : AAct), a.tmps.length = a'.tmps.length → a.tmps[t]? = a'.tmps[t]? → (∀ j p, l[j]? = some p → p.1 = some t → D (k + j) = D' (k + j)) →
    (actF l k D a).tmps[t]? = (actF l k D' a').tmps[t]?
  | [], _, _, _, _, h, _ => h
  | (d, v) :: l, k, a, a', hl, h, hw => by
    simp only [actF]
    have hrest : ∀ j p, l[j]? = some p → p.1 = some t → D (k + 1 + j) = D' (k + 1 + j) := fun j p hp ht => by
      have := hw (j + 1) p (by simpa using hp) ht
      rw [show k + 1 + j = k + (j + 1) by omega]; exact this
    by_cases hd : d = some t
    · have h0 := hw 0 (d, v) rfl hd
      simp only [Nat.add_zero] at h0
      rw [← h0]
      subst hd
      cases D k with
      | false => simp only [Bool.false_eq_true, if_false]; exact actF_get l (k + 1) a a' hl h hrest
      | true =>
        simp only [if_true]
        refine actF_get l (k + 1) _ _ (by simp [put_length, hl]) ?_ hrest
        simp only [AAct.put, setR_eq, List.getElem?_set, hl, ↓reduceIte]
    · refine actF_get l (k + 1) _ _ ?_ ?_ hrest
      · split <;> split <;> simp [put_length, hl]
      · split <;> split <;> simp [put_get_ne _ _ hd, h]

/-! ### Counts -/

def cntF : List Bool → Nat → (Nat → Bool) → Nat
  | [], _, _ => 0
  | b :: l, k, D => (if b && D k then 1 else 0) + cntF l (k + 1) D

theorem cntF_mono {D D' : Nat → Bool} : ∀ (l : List Bool) (k : Nat), (∀ j, l[j]? = some true → D (k + j) = true → D' (k + j) = true) → cntF l k D ≤ cntF l k D'
  | [], _, _ => Nat.le_refl _
  | b :: l, k, h => by
    simp only [cntF]
    have ih := cntF_mono l (k + 1) fun j hj hD => by
      have := h (j + 1) (by simpa using hj) (by rw [show k + (j + 1) = k + 1 + j by omega]; exact hD)
      rw [show k + 1 + j = k + (j + 1) by omega]; exact this
    cases b with
    | false => simpa using ih
    | true =>
      have h0 := h 0 (by simp)
      simp only [Nat.add_zero] at h0
      cases hD : D k with
      | false => simp; omega
      | true => simp [h0 hD]; omega

theorem cntF_add {D : Nat → Bool} {b : Bool} : ∀ (l : List Bool) (i k : Nat), l[i]? = some b → D (k + i) = false → cntF l k (addD D (k + i)) = cntF l k D + (if b then 1 else 0)
  | [], i, _, h, _ => by simp at h
  | c :: l, 0, k, h, hD => by
    simp at h; subst h
    simp only [cntF, Nat.add_zero] at hD ⊢
    have h1 : addD D k k = true := by simp [addD]
    simp only [h1, hD]
    have h2 : cntF l (k + 1) (addD D k) = cntF l (k + 1) D := Nat.le_antisymm
      (cntF_mono l (k + 1) fun j _ hj => by simp [addD] at hj; rcases hj with hj | hj; exact hj; omega)
      (cntF_mono l (k + 1) fun j _ hj => by simp [addD, hj])
    rw [h2]
    cases c <;> simp <;> omega
  | c :: l, i + 1, k, h, hD => by
    simp only [cntF]
    have h1 : addD D (k + (i + 1)) k = D k := by simp [addD]
    have ih := cntF_add (D := D) (b := b) l i (k + 1) (by simpa using h) (by rw [show k + 1 + i = k + (i + 1) by omega]; exact hD)
    rw [h1, show k + (i + 1) = k + 1 + i by omega, ih]
    omega

end Go.Am
