/-
  An element of a list, and a list with another element there: said so that the kernel has little to unfold. Conditions: none.
-/
import Derived.Test.YthoenpmifmomaaaGreatDoorAmR
noncomputable section
namespace Go.Am

/-- The element there. -/
def nthR {α : Type} (l : List α) : Nat → Option α :=
  List.rec (motive := fun _ => Nat → Option α) (fun _ => none) (fun x _ ih n => Nat.rec (motive := fun _ => Option α) (some x) (fun k _ => ih k) n) l

/-- The list with another element there. -/
def setR {α : Type} (l : List α) : Nat → α → List α :=
  List.rec (motive := fun _ => Nat → α → List α) (fun _ _ => []) (fun x xs ih n y => Nat.rec (motive := fun _ => List α) (y :: xs) (fun k _ => x :: ih k y) n) l

theorem nthR_eq {α : Type} : ∀ (l : List α) (n : Nat), nthR l n = l[n]?
  | [], _ => by rw [List.getElem?_nil]; rfl
  | _ :: _, 0 => by rw [List.getElem?_cons_zero]; rfl
  | _ :: l, n + 1 => by rw [List.getElem?_cons_succ, ← nthR_eq l n]; rfl

theorem setR_eq {α : Type} : ∀ (l : List α) (n : Nat) (y : α), setR l n y = l.set n y
  | [], _, _ => by rw [List.set_nil]; rfl
  | _ :: _, 0, _ => by rw [List.set_cons_zero]; rfl
  | x :: l, n + 1, y => by rw [List.set_cons_succ, ← setR_eq l n y]; rfl

end Go.Am
