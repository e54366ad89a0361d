/-
  A region that draws its order: what holds after every set of operations that is closed under what must come before. Conditions: none.
-/
import Derived.Test.YthoenpmifmomaaaGreatDoorAm24
import Derived.OrdersIn
noncomputable section
namespace Go.Am
open Go

section
variable {P : Program} {F : Fence} {n : Nat} {ops : Array Oper} {Q : Exit → Act → World → Prop} {md : Region.Mode}

/-- Closed under what must come before. -/
def Down (md : Region.Mode) (ops : Array Oper) (D : Nat → Bool) : Prop :=
  ∀ j o, ops[j]? = some o → D j = true → ∀ e ∈ o.after, Region.binds md e = true → D e.on = true

def addD (D : Nat → Bool) (i : Nat) : Nat → Bool := fun j => D j || j == i

def inn (listed : Array Bool) : Nat → Bool := fun j => listed.getD j false

theorem inn_set {listed : Array Bool} {i : Nat} (hi : i < listed.size) : inn (listed.setIfInBounds i true) = addD (inn listed) i := by
  funext j
  simp only [inn, addD, Array.getD_eq_getD_getElem?, Array.getElem?_setIfInBounds]
  by_cases hij : i = j
  · subst hij; simp [hi]
  · rw [if_neg hij]
    have : (j == i) = false := by simp; exact fun h => hij h.symm
    rw [this, Bool.or_false]

theorem order_any (St : (Nat → Bool) → Act → World → Prop) (hlow : ∀ j o, ops[j]? = some o → ∀ e ∈ o.after, Region.binds md e = true → e.on < j)
    (step : ∀ D i o, Down md ops D → ops[i]? = some o → D i = false → (∀ e ∈ o.after, Region.binds md e = true → D e.on = true) → ∀ b w, St D b w → wpOpIn F n P ops Q i (St (addD D i)) b w)
    (fin : ∀ D b w, (∀ j, j < ops.size → D j = true) → St D b w → Q .normal b w) :
    ∀ (fuel : Nat) (listed : Array Bool) (b : Act) (w : World), listed.size = ops.size → listed.toList.countP (fun x => !x) ≤ fuel → Down md ops (inn listed) → St (inn listed) b w → wpAnyIn F n P md ops Q fuel listed b w := by
  have done : ∀ (listed : Array Bool), listed.size = ops.size → Region.ready md ops listed = [] → ∀ j, j < ops.size → inn listed j = true := by
    intro listed hs hr j
    induction j using Nat.strongRecOn with
    | _ j ih =>
      intro hj
      cases hd : inn listed j with
      | true => rfl
      | false =>
        exfalso
        have hmem : j ∈ Region.ready md ops listed := by
          rw [mem_ready]
          refine ⟨?_, ops[j], by simp [hj], fun e he hb => ?_⟩
          · simp only [inn, Array.getD_eq_getD_getElem?] at hd
            simp only [Array.getD_eq_getD_getElem?]
            have hjl : j < listed.size := by omega
            simp [hjl] at hd ⊢
            exact hd
          · have hlt := hlow j ops[j] (by simp [hj]) e he hb
            exact ih e.on hlt (by omega)
        rw [hr] at hmem; cases hmem
  intro fuel
  induction fuel with
  | zero =>
    intro listed b w hs hc hd hst
    have hall : ∀ j, j < ops.size → inn listed j = true := by
      intro j hj
      have h0 : listed.toList.countP (fun x => !x) = 0 := by omega
      rw [List.countP_eq_zero] at h0
      have hjl : j < listed.size := by omega
      have := h0 listed[j] (by simp)
      simp only [inn, Array.getD_eq_getD_getElem?]
      simp [hjl] at this ⊢
      exact this
    refine ⟨?_, fin _ b w hall hst⟩
    cases hr : Region.ready md ops listed with
    | nil => rfl
    | cons i l =>
      exfalso
      have : i ∈ Region.ready md ops listed := by rw [hr]; simp
      rw [mem_ready] at this
      obtain ⟨h1, o, ho, _⟩ := this
      have hi := (Array.getElem?_eq_some_iff.1 ho).1
      have h2 := hall i hi
      simp only [inn, Array.getD_eq_getD_getElem?] at h2
      simp only [Array.getD_eq_getD_getElem?] at h1
      have hil : i < listed.size := by omega
      simp [hil] at h1 h2
      rw [h1] at h2; cases h2
  | succ fuel ih =>
    intro listed b w hs hc hd hst
    refine ⟨fun hr => fin _ b w (done listed hs hr) hst, fun i hi => ?_⟩
    rw [mem_ready] at hi
    obtain ⟨h1, o, ho, hall⟩ := hi
    have hlt := (Array.getElem?_eq_some_iff.1 ho).1
    have hil : i < listed.size := by omega
    have hDi : inn listed i = false := by
      simp only [inn, Array.getD_eq_getD_getElem?]
      simp only [Array.getD_eq_getD_getElem?] at h1
      simp [hil] at h1 ⊢
      exact h1
    refine wpOpIn_mono ?_ (step (inn listed) i o hd ho hDi hall b w hst)
    intro b' w' hst'
    rw [← inn_set hil] at hst'
    refine ih _ b' w' (by simp [hs]) ?_ ?_ hst'
    · rw [Array.toList_setIfInBounds, List.countP_set (by simpa using hil)]
      have hel : listed.toList[i]'(by simpa using hil) = false := by
        simp only [inn, Array.getD_eq_getD_getElem?] at hDi
        simp [hil] at hDi
        simpa using hDi
      have hpos : 0 < listed.toList.countP (fun x => !x) := by
        rw [List.countP_pos_iff]
        exact ⟨false, by rw [← hel]; exact List.getElem_mem _, rfl⟩
      simp only [hel, Bool.not_false, if_true, Bool.not_true, Bool.false_eq_true, if_false]
      omega
    · rw [inn_set hil]
      intro j o' ho' hj e he hb
      simp only [addD, Bool.or_eq_true, beq_iff_eq] at hj ⊢
      rcases hj with hj | rfl
      · exact .inl (hd j o' ho' hj e he hb)
      · rw [ho] at ho'; cases ho'
        exact .inl (hall e he hb)

end
end Go.Am
