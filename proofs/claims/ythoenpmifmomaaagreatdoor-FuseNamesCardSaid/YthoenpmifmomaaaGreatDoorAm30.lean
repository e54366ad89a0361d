/-
  What must come before an operation, as bits. Conditions: none.
-/
import Derived.Test.YthoenpmifmomaaaGreatDoorAm29
noncomputable section
namespace Go.Am
open Go

def maskOf (acc : List Nat) (o : Oper) : Nat := o.after.toList.foldl (fun s e => if Region.binds .any e then s ||| (2 ^ e.on ||| acc.getD e.on 0) else s) 0

def masks : List Oper → List Nat → List Nat
  | [], acc => acc
  | o :: os, acc => masks os (acc ++ [maskOf acc o])

theorem maskFold_bit (acc : List Nat) (i : Nat) : ∀ (l : List Edge) (s : Nat), (l.foldl (fun s e => if Region.binds .any e then s ||| (2 ^ e.on ||| acc.getD e.on 0) else s) s).testBit i = true →
    s.testBit i = true ∨ ∃ e ∈ l, Region.binds .any e = true ∧ (e.on = i ∨ (acc.getD e.on 0).testBit i = true)
  | [], s, h => .inl h
  | e :: l, s, h => by
    rw [List.foldl_cons] at h
    rcases maskFold_bit acc i l _ h with h | ⟨e', he', h1, h2⟩
    · split at h
      · rename_i hb
        rw [Nat.testBit_or, Nat.testBit_or, Bool.or_eq_true, Bool.or_eq_true] at h
        rcases h with h | h | h
        · exact .inl h
        · rw [Nat.testBit_two_pow] at h
          exact .inr ⟨e, List.mem_cons_self, hb, .inl (by simpa using h)⟩
        · exact .inr ⟨e, List.mem_cons_self, hb, .inr h⟩
      · exact .inl h
    · exact .inr ⟨e', List.mem_cons_of_mem _ he', h1, h2⟩

theorem masks_old : ∀ (os : List Oper) (acc : List Nat) (j : Nat), j < acc.length → (masks os acc)[j]? = acc[j]?
  | [], acc, j, _ => rfl
  | o :: os, acc, j, h => by
    simp only [masks]
    rw [masks_old os _ j (by simp; omega), List.getElem?_append_left h]

theorem masks_take : ∀ (os : List Oper) (acc : List Nat), (masks os acc).take acc.length = acc
  | [], acc => by simp [masks]
  | o :: os, acc => by
    simp only [masks]
    have h := masks_take os (acc ++ [maskOf acc o])
    have h2 : ((masks os (acc ++ [maskOf acc o])).take (acc ++ [maskOf acc o]).length).take acc.length = acc := by rw [h]; simp
    rw [List.take_take] at h2
    rw [Nat.min_eq_left (by simp)] at h2
    exact h2

theorem masks_new : ∀ (os : List Oper) (acc : List Nat) (m : Nat) (o : Oper), os[m]? = some o → (masks os acc)[acc.length + m]? = some (maskOf ((masks os acc).take (acc.length + m)) o)
  | [], _, _, _, h => by simp at h
  | o' :: os, acc, 0, o, h => by
    simp at h; subst h
    rw [Nat.add_zero, masks_take]
    simp only [masks]
    rw [masks_old os _ _ (by simp)]
    simp
  | o' :: os, acc, m + 1, o, h => by
    have := masks_new os (acc ++ [maskOf acc o']) m o (by simpa using h)
    simp only [List.length_append, List.length_cons, List.length_nil] at this
    simp only [masks]
    rw [show acc.length + (m + 1) = acc.length + (0 + 1) + m by omega]
    exact this

section
variable {ops : Array Oper}

def mskA (ops : Array Oper) : List Nat := masks ops.toList []
def bef (ops : Array Oper) (j i : Nat) : Bool := ((nthR (mskA ops) j).getD 0).testBit i
theorem bef_def (ops : Array Oper) (j i : Nat) : bef ops j i = ((mskA ops).getD j 0).testBit i := by unfold bef; rw [nthR_eq, List.getD_eq_getElem?_getD]

theorem bef_edge {j i : Nat} (h : bef ops j i = true) : ∃ o, ops[j]? = some o ∧ ∃ e ∈ o.after, Region.binds .any e = true ∧ (e.on = i ∨ bef ops e.on i = true) := by
  rw [bef_def] at h
  cases ho : ops[j]? with
  | none =>
    exfalso
    have hsz : ops.size ≤ j := by simpa using ho
    have hlen : ∀ (os : List Oper) (acc : List Nat), (masks os acc).length = acc.length + os.length := by
      intro os
      induction os with
      | nil => intro acc; simp [masks]
      | cons o os ih => intro acc; simp only [masks]; rw [ih]; simp; omega
    have : (mskA ops).getD j 0 = 0 := by
      rw [List.getD_eq_getElem?_getD, List.getElem?_eq_none (by rw [mskA, hlen]; simp; omega)]
      rfl
    rw [this] at h
    simp at h
  | some o =>
    have h1 := masks_new ops.toList [] j o (by simpa using ho)
    simp only [List.length_nil, Nat.zero_add] at h1
    have h2 : (mskA ops).getD j 0 = maskOf ((mskA ops).take j) o := by
      rw [List.getD_eq_getElem?_getD]
      show ((masks ops.toList [])[j]?).getD 0 = _
      rw [h1]; rfl
    rw [h2] at h
    rcases maskFold_bit _ i _ _ h with h | ⟨e, he, hb, h⟩
    · simp at h
    · refine ⟨o, rfl, e, by simpa using he, hb, ?_⟩
      rcases h with h | h
      · exact .inl h
      · refine .inr ?_
        rw [bef_def]
        rw [List.getD_eq_getElem?_getD] at h ⊢
        rw [List.getElem?_take] at h
        split at h
        · exact h
        · simp at h

theorem bef_low (hlow : ∀ j o, ops[j]? = some o → ∀ e ∈ o.after, Region.binds .any e = true → e.on < j) : ∀ (j i : Nat), bef ops j i = true → i < j := by
  intro j
  induction j using Nat.strongRecOn with
  | _ j ih =>
    intro i h
    obtain ⟨o, ho, e, he, hb, h⟩ := bef_edge h
    have := hlow j o ho e he hb
    rcases h with rfl | h
    · exact this
    · have := ih e.on this i h; omega

theorem bef_down (hlow : ∀ j o, ops[j]? = some o → ∀ e ∈ o.after, Region.binds .any e = true → e.on < j) {D : Nat → Bool} (hD : Down .any ops D) : ∀ (j i : Nat), D j = true → bef ops j i = true → D i = true := by
  intro j
  induction j using Nat.strongRecOn with
  | _ j ih =>
    intro i hj h
    obtain ⟨o, ho, e, he, hb, h⟩ := bef_edge h
    have h1 := hD j o ho hj e he hb
    rcases h with rfl | h
    · exact h1
    · exact ih e.on (hlow j o ho e he hb) i h1 h

theorem bef_ready (hlow : ∀ j o, ops[j]? = some o → ∀ e ∈ o.after, Region.binds .any e = true → e.on < j) {D : Nat → Bool} (hD : Down .any ops D) {j i : Nat} {o : Oper} (ho : ops[j]? = some o) (hr : ∀ e ∈ o.after, Region.binds .any e = true → D e.on = true)
    (h : bef ops j i = true) : D i = true := by
  obtain ⟨o', ho', e, he, hb, h⟩ := bef_edge h
  rw [ho] at ho'; cases ho'
  rcases h with rfl | h
  · exact hr e he hb
  · exact bef_down hlow hD e.on i (hr e he hb) h

end
end Go.Am
