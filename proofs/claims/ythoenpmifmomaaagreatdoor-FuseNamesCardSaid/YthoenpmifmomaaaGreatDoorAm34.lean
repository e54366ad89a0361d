/-
  From a closed run to the call it says: a function without parameters, and what it was handed is kept. Conditions: none.
-/
import Derived.Test.YthoenpmifmomaaaGreatDoorAm33
import Derived.Below
namespace Go.Am
open Go Go.RowKit

/-- No package variable is looked at. -/
def g0 : Gl := fun _ _ => none

def Sh.none : Sh := { X := fun _ => .top, ρ := fun _ => .none, im := fun _ _ => .none, tl := fun _ _ => .none, rm := fun _ => .none }

theorem PCall.below {P : Program} {G : Gl} {f : FuncId} {args : List AV} {es : List AEnd} (h : PCall P G f args es) {S : Sh} {w : World} {vs : List Value} (hi : Inv G S.bare AH.nil w) (hl : LRel S.bare args vs) :
    Calls P f ⟨vs⟩ w fun e w' => ∃ x ∈ es, ∃ S' : Sh, S.bare.le S'.bare ∧ FinRel S'.bare x e ∧ Below w.heap.size w w' := by
  refine callsIn_wide.1 ((h S w vs hi hl).mono ?_)
  rintro e w' ⟨x, hx, S', _, f1, r1⟩
  exact ⟨x, hx, S', f1.le, r1, ⟨f1.os, f1.tape, f1.output, f1.size, fun k hk => f1.keep k hk not_owned_nil⟩⟩

/-- A function without parameters that looks at no package variable. -/
theorem PCall.closed {P : Program} {f : FuncId} {b : Bool} (h : PCall P g0 f [] [.returned (.bool b)]) (w : World) :
    Calls P f #[] w fun e w' => e = .returned (.bool b) ∧ Below w.heap.size w w' := by
  have hi : Inv g0 Sh.none.bare AH.nil w := Inv.nil (fun _ _ _ h => by cases h) (fun _ _ _ h => by cases h)
  refine (h.below hi .nil).mono ?_
  rintro e w' ⟨x, hx, S', _, r1, hb⟩
  obtain rfl := List.mem_singleton.1 hx
  cases r1 with
  | returned v u hv =>
    cases hv
    exact ⟨rfl, hb⟩

theorem Orc.tabNil {P : Program} {G : Gl} : ∀ e ∈ ([] : List (FuncId × List AV × List AEnd)), PCall P G e.1 e.2.1 e.2.2 := fun _ h => by cases h
theorem Orc.tabCons {P : Program} {G : Gl} {f : FuncId} {xs : List AV} {es : List AEnd} {t : List (FuncId × List AV × List AEnd)} (h : PCall P G f xs es) (ht : ∀ e ∈ t, PCall P G e.1 e.2.1 e.2.2) : ∀ e ∈ (f, xs, es) :: t, PCall P G e.1 e.2.1 e.2.2 := by
  intro e he
  rcases List.mem_cons.1 he with rfl | he
  · exact h
  · exact ht e he

end Go.Am
