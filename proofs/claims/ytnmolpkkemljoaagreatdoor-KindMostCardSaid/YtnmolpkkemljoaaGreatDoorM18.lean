/-
  What the proof is built of: KindInstances: the walk, up to its plain law. Other numbers for variables: the numbered type stays the same. Types into which types are put for variables: instances. Conditions: none.
-/
import Derived.Test.YtnmolpkkemljoaaGreatDoorM14
import Derived.Test.YtnmolpkkemljoaaGreatDoorM6
import Derived.Test.YtnmolpkkemljoaaGreatDoorM10
import Derived.Lib.ConvBytes
set_option linter.unusedVariables false
set_option linter.unusedSimpArgs false
section
set_option maxRecDepth 100000
noncomputable section
namespace Go.Proofs.YtnmolpkkemljoaaGreatDoor
open Go Go.Am Kd
theorem mm_hook : QSpec.Ok Tryz.prog gT 18 mmQ := by
 intro args K h'
 unfold mmQ at h'
 split at h'
 ·obtain ⟨t, rfl, g1⟩ := argTy_elim h'
  obtain ⟨u, rfl, g2, g3⟩ := argTy_elim g1
  exact ⟨_, (match_ok t u g2.1 g2.2).lift, g3⟩
 ·exact h'.elim
structure InstF (t bb : Ty) : Prop where
 m0 : mtN t bb = 0
 len : (mtU t bb).length ≤ 2000
 all : allC (mtU t bb)
 lens : iC (mtU t bb).length = iC (vlF t).length
 vt : errF t = 0
 p0 : putE (mtU t bb) t = 0
 sm : sameB (putT (mtU t bb) t) bb = true
 c0 : cmN t bb = 0
 cc : cnt (cmV t bb) ≤ 1000
 cn : cnt (numF t) ≤ 1000
 cb : cnt (numF bb) ≤ 1000
 scn : sameB (cmV t bb) (numF t) = true
 vb : errF bb = 0
 back : mtN bb t = 0 → sameB (numF bb) (numF t) = true
end Go.Proofs.YtnmolpkkemljoaaGreatDoor
end
end
section
set_option maxRecDepth 100000
namespace Kd
open Go.Am Go.Proofs.YtnmolpkkemljoaaGreatDoor
mutual
def allV (p : Int → Prop) : Ty → Prop
 | .mk k n _ l => (k = 6 → p n) ∧ allVL p l
def allVL (p : Int → Prop) : List Ty → Prop
 | [] => True
 | x :: xs => allV p x ∧ allVL p xs
end
theorem allV_imp {p q : Int → Prop} (h : ∀ n, p n → q n) : (∀ t, allV p t → allV q t) ∧ ∀ l, allVL p l → allVL q l := by
 have key : ∀ (N : Nat), (∀ t, SizeOf.sizeOf t < N → allV p t → allV q t) ∧ ∀ l, SizeOf.sizeOf l < N → allVL p l → allVL q l := by
  intro N
  induction N with
  | zero => exact ⟨fun _ h => by omega, fun _ h => by omega⟩
  | succ N ih =>
   obtain ⟨ih1, ih2⟩ := ih
   constructor
   ·intro t ht ha
    cases t with
    | mk k n b l =>
     simp only [Ty.mk.sizeOf_spec] at ht
     simp only [allV] at ha ⊢
     exact ⟨fun hk => h n (ha.1 hk), ih2 l (by omega) ha.2⟩
   ·intro l hl ha
    cases l with
    | nil => trivial
    | cons x xs =>
     simp only [List.cons.sizeOf_spec] at hl
     simp only [allVL] at ha ⊢
     exact ⟨ih1 x (by omega) ha.1, ih2 xs (by omega) ha.2⟩
 exact ⟨fun t => (key (SizeOf.sizeOf t + 1)).1 t (by omega), fun l => (key (SizeOf.sizeOf l + 1)).2 l (by omega)⟩
theorem okT_range : ∀ t, okT t = true → allV (fun n => 0 ≤ n ∧ n < 1000) t := by
 have key : ∀ (N : Nat), (∀ t, SizeOf.sizeOf t < N → okT t = true → allV (fun n => 0 ≤ n ∧ n < 1000) t) ∧ ∀ l, SizeOf.sizeOf l < N → okL l = true → allVL (fun n => 0 ≤ n ∧ n < 1000) l := by
  intro N
  induction N with
  | zero => exact ⟨fun _ h => by omega, fun _ h => by omega⟩
  | succ N ih =>
   obtain ⟨ih1, ih2⟩ := ih
   constructor
   ·intro t ht h
    cases t with
    | mk k n b l =>
     simp only [Ty.mk.sizeOf_spec] at ht
     obtain ⟨h1, h2⟩ := ok_node h
     simp only [NodeOk] at h1
     simp only [allV]
     exact ⟨h1.2.2.2.2.2, ih2 l (by omega) h2⟩
   ·intro l hl h
    cases l with
    | nil => trivial
    | cons x xs =>
     simp only [List.cons.sizeOf_spec] at hl
     simp only [okL, Bool.and_eq_true] at h
     simp only [allVL]
     exact ⟨ih1 x (by omega) h.1, ih2 xs (by omega) h.2⟩
 exact fun t => (key (SizeOf.sizeOf t + 1)).1 t (by omega)
end Kd
end
section
namespace Kd
open Go Go.Am Go.Proofs.YtnmolpkkemljoaaGreatDoor
mutual
def subT (σ : Int → Ty) : Ty → Ty
 | .mk k n _ l => if k = 6 then σ n else .mk k 0 (nilB l) (subL σ l)
def subL (σ : Int → Ty) : List Ty → List Ty
 | [] => []
 | x :: xs => subT σ x :: subL σ xs
end
theorem subL_len (σ : Int → Ty) : ∀ l, (subL σ l).length = l.length
 | [] => rfl
 | x :: xs => by simp only [subL, List.length_cons, subL_len σ xs]
theorem nilB_sub (σ : Int → Ty) (l : List Ty) : nilB (subL σ l) = nilB l := by simp only [nilB, subL_len]
theorem with_sub (bs : List (Int × Ty)) : (∀ t, withT bs t = subT (fun n => cleanT (boundT bs n)) t) ∧ ∀ l, withL bs l = subL (fun n => cleanT (boundT bs n)) l :=
 Ty.ind (fun k n b l ih => by simp only [withT, subT, ih]) rfl fun x xs h1 h2 => by simp only [withL, subL, h1, h2]
theorem sub_sub (σ τ : Int → Ty) : (∀ t, subT τ (subT σ t) = subT (fun n => subT τ (σ n)) t) ∧ ∀ l, subL τ (subL σ l) = subL (fun n => subT τ (σ n)) l :=
 Ty.ind (fun k n b l ih => by
  by_cases h6 : k = 6
  ·simp only [subT, if_pos h6]
  ·simp only [subT, if_neg h6, ih, nilB_sub]) rfl fun x xs h1 h2 => by simp only [subL, h1, h2]
theorem clean_clean : (∀ t, cleanT (cleanT t) = cleanT t) ∧ ∀ l, cleanL (cleanL l) = cleanL l :=
 Ty.ind (fun k n b l ih => by
  by_cases h6 : k = 6 <;> simp [cleanT, h6, ih, nilB, cleanL_len]) rfl fun x xs h1 h2 => by simp only [cleanL, h1, h2]
theorem sub_clean {σ : Int → Ty} (h : ∀ n, cleanT (σ n) = σ n) : (∀ t, cleanT (subT σ t) = subT σ t) ∧ ∀ l, cleanL (subL σ l) = subL σ l :=
 Ty.ind (fun k n b l ih => by
  by_cases h6 : k = 6
  ·simp only [subT, if_pos h6, h]
  ·simp only [subT, if_neg h6, cleanT, ih, nilB_sub]) rfl fun x xs h1 h2 => by simp only [subL, cleanL, h1, h2]
theorem sub_congr {σ τ : Int → Ty} : (∀ t, allV (fun n => σ n = τ n) t → subT σ t = subT τ t) ∧ ∀ l, allVL (fun n => σ n = τ n) l → subL σ l = subL τ l :=
 Ty.ind (fun k n b l ih h => by
  simp only [allV] at h
  by_cases h6 : k = 6
  ·simp only [subT, if_pos h6, h.1 h6]
  ·simp only [subT, if_neg h6, ih h.2]) (fun _ => rfl) fun x xs h1 h2 h => by
   simp only [allVL] at h
   simp only [subL, h1 h.1, h2 h.2]
def mtInv (σ : Int → Ty) (es : Es) : Prop := ∀ e ∈ es, e.2.1 = σ e.1
theorem boundM_inv {σ : Int → Ty} {es : Es} {n : Int} {o : Ty} (hi : mtInv σ es) (h : boundM es n = some o) : o = σ n ∧ n ∈ es.map fun x => x.1 := by
 induction es with
 | nil => cases h
 | cons x l ih =>
  simp only [boundM] at h
  split at h
  ·rename_i he
   cases h
   exact ⟨by rw [he]; exact hi x (List.mem_cons_self ..), by simp [he]⟩
  ·obtain ⟨h1, h2⟩ := ih (fun e he => hi e (List.mem_cons_of_mem _ he)) h
   exact ⟨h1, List.mem_cons_of_mem _ h2⟩
theorem setM_inv {σ : Int → Ty} {es : Es} {n : Int} (hi : mtInv σ es) : mtInv σ (setM es n (σ n)) := by
 induction es with
 | nil => exact hi
 | cons x l ih =>
  simp only [setM]
  split
  ·rename_i he
   intro e h
   rcases List.mem_cons.1 h with rfl | h
   ·simp [he]
   ·exact hi e (List.mem_cons_of_mem _ h)
  ·intro e h
   rcases List.mem_cons.1 h with rfl | h
   ·exact hi _ (List.mem_cons_self ..)
   ·exact ih (fun e he => hi e (List.mem_cons_of_mem _ he)) e h
theorem mt_sub {σ : Int → Ty} (hc : ∀ n, cleanT (σ n) = σ n) :
  (∀ t, okT t = true → ∀ (es : Es) (c : Nat), mtInv σ es → (mtT t (subT σ t) es c).ok = true ∧ mtInv σ (mtT t (subT σ t) es c).es ∧ (mtT t (subT σ t) es c).es.map (fun x => x.1) = firstT t (es.map fun x => x.1)) ∧
  ∀ l, okL l = true → ∀ (es : Es) (c : Nat), mtInv σ es → (mtL l (subL σ l) es c).ok = true ∧ mtInv σ (mtL l (subL σ l) es c).es ∧ (mtL l (subL σ l) es c).es.map (fun x => x.1) = firstL l (es.map fun x => x.1) := by
 refine Ty.ind (fun k n b l ih ho es c hi => ?_) (fun _ es c hi => ⟨rfl, hi, rfl⟩) fun x xs h1 h2 ho es c hi => ?_
 ·obtain ⟨ho1, ho2⟩ := ok_node ho
  by_cases h6 : k = 6
  ·simp only [NodeOk] at ho1
   have hl : l = [] := List.eq_nil_of_length_eq_zero (ho1.2.2.1 (.inr (.inr h6)))
   subst hl
   simp only [mtT, subT, if_pos h6, firstT, firstL, hc]
   cases hb : boundM es n with
   | some o =>
    obtain ⟨rfl, hm⟩ := boundM_inv hi hb
    simp only [sameB_refl, if_true]
    refine ⟨trivial, setM_inv hi, ?_⟩
    rw [setM_keys, addV, if_pos (by simpa using hm)]
   | none =>
    simp only
    refine ⟨trivial, fun e he => ?_, ?_⟩
    ·rcases List.mem_append.1 he with he | he
     ·exact hi e he
     ·obtain rfl := List.mem_singleton.1 he; rfl
    ·rw [addV, if_neg (by simpa using boundM_key hb)]; simp
  ·simp only [mtT, subT, if_neg h6, firstT, Ty.kind, Ty.l, if_true]
   exact ih ho2 es c hi
 ·simp only [okL, Bool.and_eq_true] at ho
  obtain ⟨a1, a2, a3⟩ := h1 ho.1 es c hi
  simp only [mtL, subL, a1, if_true, firstL]
  rw [← a3]
  exact h2 ho.2 _ _ a2
end Kd
end